/-
  slices.Clone, slices.Grow (of nil) and slices.Concat at []byte: what they give. No conditions but lengths.
-/
import Derived.Test.YtbndknbjjdoanaaSharePackedPau
import Derived.Deep.Upon
import Derived.Lib.AppendZeros
namespace Go.Proofs.Ytbndknbjjdoanaa
open Go.RowKit

theorem infoB1 : (Try.prog.info? 5).map (fun i => (i.zero, i.size, i.bytes)) = some (some (.int .u8 0), 1, 1) := by kernel_rfl

theorem row_base2 {B : Nat} {v : Value} {n : Nat} {xs : List Value} {e : TypeId} {W : World} (h : W.ownsRow B e 1 v n xs) {k : Nat} (hk : v.ownBlock = some k) : B ≤ k := by
  rcases h.2 with ⟨rfl, _⟩ | ⟨g, cap, cur, rfl, hb, _⟩
  · simp [Value.ownBlock] at hk
  · simp [Value.ownBlock] at hk; omega

theorem ownsRow_lt2 {W : World} {B e : Nat} {v : Value} {n : Nat} {xs : List Value} (h : W.ownsRow B e 1 v n xs) : ∃ a c, v = .slice a n c ∧ n ≤ c ∧ c ≤ maxLen := by
  rcases h.2 with ⟨rfl, rfl⟩ | ⟨g, cap, cur, rfl, _, _, h1, h2, _⟩
  · exact ⟨_, _, rfl, Nat.le_refl _, Nat.zero_le _⟩
  · exact ⟨_, _, rfl, h1, h2⟩

/-- 'append(v, s...)' onto a row of the call's own, whatever s is. -/
theorem wpList_append_reads {ops : Array Oper} {rest : List Oper} {o : Oper} {a : Act} {Q : Exit → Act → World → Prop} (hgd : o.guard = none) (s x : Operand)
    (ho : o.op = .call { callee := .builtin .append, args := #[s, x], argTypes := #[22, 22] })
    (base : Nat) (w : World) (v : Value) (n : Nat) (xs : List Int) (hs : a.eval s = v) (hown : w.ownsRow base 5 1 v n (xs.map (Value.int .u8)))
    (sv : Value) (zs : List Int) (hx : a.eval x = sv) (hr : Reads w .u8 sv zs) (h63 : n + zs.length ≤ 140737488355328) (hbase : base ≤ w.heap.size)
    (h : ∀ v' w', w'.ownsRow base 5 1 v' (n + zs.length) ((xs ++ zs).map (Value.int .u8)) → w.grownBy w' v.ownBlock → wpList Try.prog ops Q rest (a.put o.dst v') w') :
    wpList Try.prog ops Q (o :: rest) a w := by
  obtain ⟨i0, hi, hz0, hz1, hz2⟩ := info_parts infoB1
  have hr' := hr
  obtain ⟨p, cap, rfl, hl, hc⟩ := hr
  cases p with
  | none =>
    have hz : zs = [] := by
      rcases List.eq_nil_or_concat zs with h' | ⟨l, y, h'⟩
      · exact h'
      · obtain ⟨b, o, h1, _⟩ := hc (by rw [h']; simp)
        cases h1
    subst hz
    obtain ⟨a1, c1, rfl, h1, h2⟩ := ownsRow_lt2 hown
    refine wpList_plain hgd fun K hK => ?_
    have hrun := run_append_nothing (P := Try.prog) w 22 22 o.type 5 i0 Try.underlying22 hi a1 n c1 h1 (.slice none 0 cap) (Src.ofNil w Try.underlying22 cap)
    unfold Oper.wp execOp
    simp only [List.length_nil] at hx
    simp only [ho, resolve, invoke, builtin, Sem.run_bind, Sem.run_pure, Result.andThen_ok, List.map_toArray, List.map_cons, List.map_nil, hs, hx, hrun]
    exact hK _ _ (h _ _ (by simpa using hown) (World.grownBy.refl _ _))
  | some ad =>
    have hcs := hr'.cells rfl
    refine wpList_append_own _ hgd s x 22 ho base 5 i0 (.int .u8 0) 1 1 Try.underlying22 hi hz0 hz1 hz2 rfl (by decide) v n _ hs hown ad zs.length cap (zs.map (Value.int .u8)) hx (by simp) (hcs _ rfl) ?_ ?_ (by omega) hbase ?_
    · intro u hu; obtain ⟨z, _, rfl⟩ := List.mem_map.1 hu; rfl
    · unfold maxLen; omega
    · intro v' w' h1 h2 _
      exact h v' w' (by simpa using h1) h2

def OwnBytes (zs : List Int) (w : World) : Ending → World → Prop := fun e w' =>
  ∃ v, e = .returned v ∧ w'.ownsRow w.heap.size 5 1 v zs.length (zs.map (Value.int .u8)) ∧ Below w.heap.size w w'

set_option maxHeartbeats 1000000 in
set_option maxRecDepth 100000 in
theorem clone_byte (v : Value) (zs : List Int) (w : World) (hr : Reads w .u8 v zs) (hreach : zs.length ≤ 140737488355328) :
    Calls Try.prog 46 #[v] w (OwnBytes zs w) := by
  have hr' := hr
  obtain ⟨a, cap, rfl, hl, hc⟩ := hr
  have hq := fun (w : World) (a : Option Addr) (n c : Nat) => Lib.run_eql_slice_nil (P := Try.prog) w 22 5 a n c 0 0 Try.underlying22
  cases a with
  | none =>
    have hz : zs = [] := by
      rcases List.eq_nil_or_concat zs with h | ⟨l, x, h⟩
      · exact h
      · obtain ⟨b, o, h1, _⟩ := hc (by rw [h]; simp)
        cases h1
    subst hz
    clear hc hr'
    go_enter Try.func46, Try.ntmps46
    go_wp2
    go_ret
    exact ⟨_, rfl, World.ownsRow_nil _ _ _ _, Below.refl _ _⟩
  | some ad =>
    have HR : Hid (Reads (w.alloc (.cells #[] 5)) .u8 (.slice (some ad) zs.length cap) zs) := Lib.hid (hr'.below ((Below.refl w.heap.size w).alloc (Nat.le_refl _) _) rfl)
    have HM : Hid (World.ownsRow (w.alloc (.cells #[] 5)) w.heap.size 5 1 (.slice (some ⟨w.heap.size, 0, none⟩) 0 0) 0 (([] : List Int).map (Value.int .u8))) := World.ownsRow_made w #[] 0 (Nat.le_refl _) (by unfold maxLen; omega) rfl
    clear hc hr'
    go_enter Try.func46, Try.ntmps46
    go_wp2_with (at_builtin; go_must (refine wpList_append_reads rfl (.tmp 5) (.tmp 6) rfl w.heap.size _ _ 0 [] rfl HM.out _ zs rfl HR.out (by omega) (by simp) ?_))
    intro v' w1 hown hg
    have hb : Below w.heap.size w w1 := ((Below.refl w.heap.size w).alloc (Nat.le_refl _) _).grown hg (by simp) (fun q hq => by simp [Value.ownBlock] at hq; omega)
    go_wp2_with fail
    go_ret
    exact ⟨_, rfl, by simpa using hown, hb⟩

/-- 'append(nil, make([]byte, n)...)'. -/
theorem wpList_append_zeros {ops : Array Oper} {rest : List Oper} {o : Oper} {a : Act} {Q : Exit → Act → World → Prop} (hgd : o.guard = none) (s x : Operand)
    (ho : o.op = .call { callee := .builtin .append, args := #[s, x], argTypes := #[22, 3] })
    (w : World) (n : Nat) (hs : a.eval s = .slice none 0 0) (hx : a.eval x = .int .i64 n) (h0 : 0 < n) (h63 : n ≤ 1000000000)
    (h : ∀ cap w', n ≤ cap → w'.ownsRow w.heap.size 5 1 (.slice (some ⟨w.heap.size, 0, none⟩) 0 cap) 0 [] → Below w.heap.size w w' → wpList Try.prog ops Q rest (a.put o.dst (.slice (some ⟨w.heap.size, 0, none⟩) n cap)) w') :
    wpList Try.prog ops Q (o :: rest) a w := by
  obtain ⟨i0, hi, hz0, hz1, hz2⟩ := info_parts infoB1
  have hrun := Lib.run_append_nil_zeros (P := Try.prog) w 22 3 o.type 5 i0 (.int .u8 0) .i64 .i64 Try.underlying22 Try.underlying3 hi hz0 n h0 (by omega) (by omega) (by rw [hz2]; omega)
  refine wpList_plain hgd fun K hK => ?_
  unfold Oper.wp execOp
  simp only [ho, resolve, invoke, builtin, Sem.run_bind, Sem.run_pure, Result.andThen_ok, List.map_toArray, List.map_cons, List.map_nil, hs, hx, hrun]
  refine hK _ _ (h _ _ ?_ ?_ ?_)
  · exact grownCap_ge _ _ _ _
  · refine ⟨by simp, Or.inr ⟨_, _, _, rfl, Nat.le_refl _, heap_alloc_new _ _, Nat.zero_le _, grownCap_le_maxLen _ _ _ _ (by unfold maxLen; omega), ?_, by simp⟩⟩
    have := grownCap_ge w n 0 5
    simp [size_zeroCells, Value.cells]
    omega
  · exact ((Below.refl _ w).drew).alloc (Nat.le_refl _) _


set_option maxHeartbeats 1000000 in
set_option maxRecDepth 100000 in
theorem grow_nil (n : Nat) (w : World) (h63 : n ≤ 1000000000) :
    Calls Try.prog 45 #[.slice none 0 0, .int .i64 n] w (OwnBytes [] w) := by
  by_cases h0 : n = 0
  · subst h0
    go_enter Try.func45, Try.ntmps45
    go_wp2_with fail
    go_ret
    exact ⟨_, rfl, World.ownsRow_nil _ _ _ _, Below.refl _ _⟩
  · have hn : (0 : Int) < n := by omega
    have HN := Lib.hid (Nat.pos_of_ne_zero h0)
    go_enter Try.func45, Try.ntmps45
    go_wp2_with (at_builtin; go_must (refine wpList_append_zeros rfl (.tmp 20) (.tmp 21) rfl w n rfl rfl HN.out h63 ?_))
    intro cap w1 hcap hown hb
    go_wp2_with fail
    go_ret
    exact ⟨_, rfl, hown, hb⟩

def catLen (els : List (Value × List Int)) (k : Nat) : Nat := ((els.take k).map Prod.snd).flatten.length
theorem catLen_succ (els : List (Value × List Int)) (k : Nat) (h : k < els.length) : catLen els (k + 1) = catLen els k + els[k].2.length := by
  unfold catLen
  rw [List.take_add_one, List.getElem?_eq_getElem h, List.map_append, List.flatten_append, List.length_append]
  congr 1
  simp
theorem catLen_le (els : List (Value × List Int)) (k : Nat) : catLen els k ≤ (els.map Prod.snd).flatten.length := by
  unfold catLen
  rw [List.map_take]
  conv => rhs; rw [← List.take_append_drop k (els.map Prod.snd)]
  rw [List.flatten_append, List.length_append]
  omega
theorem cat_succ (els : List (Value × List Int)) (k : Nat) (h : k < els.length) : ((els.take (k + 1)).map Prod.snd).flatten = ((els.take k).map Prod.snd).flatten ++ els[k].2 := by
  rw [List.take_add_one, List.getElem?_eq_getElem h, List.map_append, List.flatten_append]
  congr 1
  simp

set_option maxHeartbeats 2000000 in
set_option maxRecDepth 100000 in
theorem concat_any (bb : Nat) (els : List (Value × List Int)) (w : World) (hc : ∀ k (hk : k < els.length), w.cell? ⟨bb, k, none⟩ = some (els[k].1) ∧ Reads w .u8 els[k].1 els[k].2)
    (hl : (els.map Prod.snd).flatten.length ≤ 100000000) (hn : els.length ≤ 1000) :
    Calls Try.prog 16 #[.slice (some ⟨bb, 0, none⟩) els.length els.length] w (OwnBytes (els.map Prod.snd).flatten w) := by
  have HC := Lib.hid hc
  have HL := Lib.hid hl
  clear hc
  go_enter Try.func16, Try.ntmps16
  go_wp2_with fail
  go_loopw [11, 3] (fun i s wr => ∃ k : Nat, k ≤ els.length ∧ i = .int .i64 k ∧ s = .int .i64 (catLen els k) ∧ wr = w) (fun i _ _ => els.length - (intOf i).toNat)
  case atStart => exact ⟨0, Nat.zero_le _, rfl, rfl, rfl⟩
  case round =>
    obtain ⟨k, hk, rfl, rfl, hw⟩ := hrel
    obtain rfl := hw.symm
    have le := catLen_le els k
    by_cases hlt : k < els.length
    · obtain ⟨c0, r0⟩ := HC.out k hlt
      obtain ⟨a1, cap1, e1, l1, _⟩ := r0
      rw [e1] at c0
      have S := catLen_succ els k hlt
      have le2 := catLen_le els (k + 1)
      clear e1
      generalize els[k].2.length = m at *
      generalize catLen els k = s at *
      go_wp2_with fail
      go_roundw
      case rel => exact ⟨k + 1, by omega, by go_num, by rw [S]; go_num, trivial⟩
      case measure => simp [intOf]; omega
    · have hkn : k = els.length := by omega
      subst hkn
      have SZ := Lib.hid (show catLen els els.length = (els.map Prod.snd).flatten.length from by unfold catLen; rw [List.take_length])
      rw [SZ.out]
      generalize hN : (els.map Prod.snd).flatten.length = N at *
      go_wp2_with fail
      refine (grow_nil N w (by omega)).mono ?_
      rintro e w1 ⟨v1, rfl, ho1, hb1⟩
      have HO1 := Lib.hid ho1
      have HB1 := Lib.hid hb1
      clear ho1 hb1
      go_wp2_with fail
      go_loopw [27, 6] (fun i s wx => ∃ k : Nat, k ≤ els.length ∧ i = .int .i64 k ∧ wx.ownsRow w.heap.size 5 1 s (catLen els k) (((els.take k).map Prod.snd).flatten.map (Value.int .u8)) ∧ Below w.heap.size w wx) (fun i _ _ => els.length - (intOf i).toNat)
      case atStart => exact ⟨0, Nat.zero_le _, rfl, by simpa [catLen] using HO1.out, HB1.out⟩
      case round =>
        obtain ⟨k, hk, rfl, ho, hb⟩ := hrel
        have le := catLen_le els k
        by_cases hlt : k < els.length
        · obtain ⟨c0, r0⟩ := HC.out k hlt
          have c1 := old_cell hb c0
          have r1 := r0.below hb rfl
          have le2 := catLen_le els (k + 1)
          have S := catLen_succ els k hlt
          have S2 := Lib.hid (cat_succ els k hlt)
          have R1 := Lib.hid r1
          have HO := Lib.hid ho
          have hsz := hb.size
          have HBB := Lib.hid hb
          clear c0 r0 r1 ho hb
          go_wp2_with (at_builtin; go_must (refine wpList_append_reads rfl (.tmp 31) (.tmp 32) rfl w.heap.size wr _ _ _ rfl HO.out _ _ rfl R1.out (by omega) hsz ?_))
          intro v' w2 hown hg
          have hb2 := HBB.out.grown hg hsz (fun q hq => row_base2 HO.out hq)
          have hown2 : w2.ownsRow w.heap.size 5 1 v' (catLen els (k + 1)) (((els.take (k + 1)).map Prod.snd).flatten.map (Value.int .u8)) := by rw [S, S2.out]; simpa using hown
          clear hown
          clear hg
          go_wp2_with fail
          go_roundw
          case rel => exact ⟨k + 1, by omega, by go_num, hown2, hb2⟩
          case measure => simp [intOf]; omega
        · have hkn : k = els.length := by omega
          subst hkn
          rw [SZ.out, List.take_length] at ho
          go_wp2_with fail
          go_ret
          exact ⟨_, rfl, by rw [hN]; exact ho, hb⟩

end Go.Proofs.Ytbndknbjjdoanaa
