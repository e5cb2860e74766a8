/-
  Two copies, one behind the other, in plain Lean; what a replacing leaves. No program.
  slices.Clone, slices.Grow (of nil) and slices.Concat at []byte: what they give. No conditions but lengths.
-/
import Derived.Test.YtjogaohnphafgaaTopCompactPak
import Derived.Deep.Upon
import Derived.Lib.AppendZeros

namespace Go.Proofs.Ytjogaohnphafgaa
section

theorem splice_len {α : Type} (ds T : List α) (f : Nat) (h : f + T.length ≤ ds.length) : (splice ds f T).length = ds.length := by
  simp [splice]; omega

theorem splice2 (ds zs T : List Int) (f : Nat) (h : f + zs.length + T.length ≤ ds.length) :
    (splice (splice ds (f + zs.length) T) f zs).take (f + zs.length + T.length) = ds.take f ++ zs ++ T := by
  apply List.ext_getElem?
  intro i
  simp only [splice, List.getElem?_take, List.getElem?_append, List.getElem?_drop, List.length_take, List.length_append, List.length_drop]
  grind

end
end Go.Proofs.Ytjogaohnphafgaa

namespace Go.Proofs.Ytjogaohnphafgaa
section
open Go.RowKit

theorem infoB1 : (Try.prog.info? 5).map (fun i => (i.zero, i.size, i.bytes)) = some (some (.int .u8 0), 1, 1) := by kernel_rfl

theorem row_base2 {B : Nat} {v : Value} {n : Nat} {xs : List Value} {e : TypeId} {W : World} (h : W.ownsRow B e 1 v n xs) {k : Nat} (hk : v.ownBlock = some k) : B ≤ k := by
  rcases h.2 with ⟨rfl, _⟩ | ⟨g, cap, cur, rfl, hb, _⟩
  · simp [Value.ownBlock] at hk
  · simp [Value.ownBlock] at hk; omega

theorem ownsRow_lt2 {W : World} {B e : Nat} {v : Value} {n : Nat} {xs : List Value} (h : W.ownsRow B e 1 v n xs) : ∃ a c, v = .slice a n c ∧ n ≤ c ∧ c ≤ maxLen := by
  rcases h.2 with ⟨rfl, rfl⟩ | ⟨g, cap, cur, rfl, _, _, h1, h2, _⟩
  · exact ⟨_, _, rfl, Nat.le_refl _, Nat.zero_le _⟩
  · exact ⟨_, _, rfl, h1, h2⟩

/-- 'append(v, s...)' onto a row of the call's own, whatever s is. -/
theorem wpList_append_reads {ops : Array Oper} {rest : List Oper} {o : Oper} {a : Act} {Q : Exit → Act → World → Prop} (hgd : o.guard = none) (s x : Operand)
    (ho : o.op = .call { callee := .builtin .append, args := #[s, x], argTypes := #[34, 34] })
    (base : Nat) (w : World) (v : Value) (n : Nat) (xs : List Int) (hs : a.eval s = v) (hown : w.ownsRow base 5 1 v n (xs.map (Value.int .u8)))
    (sv : Value) (zs : List Int) (hx : a.eval x = sv) (hr : Reads w .u8 sv zs) (h63 : n + zs.length ≤ 140737488355328) (hbase : base ≤ w.heap.size)
    (h : ∀ v' w', w'.ownsRow base 5 1 v' (n + zs.length) ((xs ++ zs).map (Value.int .u8)) → w.grownBy w' v.ownBlock → wpList Try.prog ops Q rest (a.put o.dst v') w') :
    wpList Try.prog ops Q (o :: rest) a w := by
  obtain ⟨i0, hi, hz0, hz1, hz2⟩ := info_parts infoB1
  have hr' := hr
  obtain ⟨p, cap, rfl, hl, hc⟩ := hr
  cases p with
  | none =>
    have hz : zs = [] := by
      rcases List.eq_nil_or_concat zs with h' | ⟨l, y, h'⟩
      · exact h'
      · obtain ⟨b, o, h1, _⟩ := hc (by rw [h']; simp)
        cases h1
    subst hz
    obtain ⟨a1, c1, rfl, h1, h2⟩ := ownsRow_lt2 hown
    refine wpList_plain hgd fun K hK => ?_
    have hrun := run_append_nothing (P := Try.prog) w 34 34 o.type 5 i0 Try.underlying34 hi a1 n c1 h1 (.slice none 0 cap) (Src.ofNil w Try.underlying34 cap)
    unfold Oper.wp execOp
    simp only [List.length_nil] at hx
    simp only [ho, resolve, invoke, builtin, Sem.run_bind, Sem.run_pure, Result.andThen_ok, List.map_toArray, List.map_cons, List.map_nil, hs, hx, hrun]
    exact hK _ _ (h _ _ (by simpa using hown) (World.grownBy.refl _ _))
  | some ad =>
    have hcs := hr'.cells rfl
    refine wpList_append_own _ hgd s x 34 ho base 5 i0 (.int .u8 0) 1 1 Try.underlying34 hi hz0 hz1 hz2 rfl (by decide) v n _ hs hown ad zs.length cap (zs.map (Value.int .u8)) hx (by simp) (hcs _ rfl) ?_ ?_ (by omega) hbase ?_
    · intro u hu; obtain ⟨z, _, rfl⟩ := List.mem_map.1 hu; rfl
    · unfold maxLen; omega
    · intro v' w' h1 h2 _
      exact h v' w' (by simpa using h1) h2

def OwnBytes (zs : List Int) (w : World) : Ending → World → Prop := fun e w' =>
  ∃ v, e = .returned v ∧ w'.ownsRow w.heap.size 5 1 v zs.length (zs.map (Value.int .u8)) ∧ Below w.heap.size w w'

set_option maxHeartbeats 1000000 in
set_option maxRecDepth 100000 in
theorem clone_byte (v : Value) (zs : List Int) (w : World) (hr : Reads w .u8 v zs) (hreach : zs.length ≤ 140737488355328) :
    Calls Try.prog 40 #[v] w (OwnBytes zs w) := by
  have hr' := hr
  obtain ⟨a, cap, rfl, hl, hc⟩ := hr
  have hq := fun (w : World) (a : Option Addr) (n c : Nat) => Lib.run_eql_slice_nil (P := Try.prog) w 34 5 a n c 0 0 Try.underlying34
  cases a with
  | none =>
    have hz : zs = [] := by
      rcases List.eq_nil_or_concat zs with h | ⟨l, x, h⟩
      · exact h
      · obtain ⟨b, o, h1, _⟩ := hc (by rw [h]; simp)
        cases h1
    subst hz
    clear hc hr'
    go_enter Try.func40, Try.ntmps40
    go_wp2
    go_ret
    exact ⟨_, rfl, World.ownsRow_nil _ _ _ _, Below.refl _ _⟩
  | some ad =>
    have HR : Hid (Reads (w.alloc (.cells #[] 5)) .u8 (.slice (some ad) zs.length cap) zs) := Lib.hid (hr'.below ((Below.refl w.heap.size w).alloc (Nat.le_refl _) _) rfl)
    have HM : Hid (World.ownsRow (w.alloc (.cells #[] 5)) w.heap.size 5 1 (.slice (some ⟨w.heap.size, 0, none⟩) 0 0) 0 (([] : List Int).map (Value.int .u8))) := World.ownsRow_made w #[] 0 (Nat.le_refl _) (by unfold maxLen; omega) rfl
    clear hc hr'
    go_enter Try.func40, Try.ntmps40
    go_wp2_with (at_builtin; go_must (refine wpList_append_reads rfl (.tmp 5) (.tmp 6) rfl w.heap.size _ _ 0 [] rfl HM.out _ zs rfl HR.out (by omega) (by simp) ?_))
    intro v' w1 hown hg
    have hb : Below w.heap.size w w1 := ((Below.refl w.heap.size w).alloc (Nat.le_refl _) _).grown hg (by simp) (fun q hq => by simp [Value.ownBlock] at hq; omega)
    go_wp2_with fail
    go_ret
    exact ⟨_, rfl, by simpa using hown, hb⟩

/-- 'append(nil, make([]byte, n)...)'. -/
theorem wpList_append_zeros {ops : Array Oper} {rest : List Oper} {o : Oper} {a : Act} {Q : Exit → Act → World → Prop} (hgd : o.guard = none) (s x : Operand)
    (ho : o.op = .call { callee := .builtin .append, args := #[s, x], argTypes := #[34, 3] })
    (w : World) (n : Nat) (hs : a.eval s = .slice none 0 0) (hx : a.eval x = .int .i64 n) (h0 : 0 < n) (h63 : n ≤ 1000000000)
    (h : ∀ cap w', n ≤ cap → w'.ownsRow w.heap.size 5 1 (.slice (some ⟨w.heap.size, 0, none⟩) 0 cap) 0 [] → Below w.heap.size w w' → wpList Try.prog ops Q rest (a.put o.dst (.slice (some ⟨w.heap.size, 0, none⟩) n cap)) w') :
    wpList Try.prog ops Q (o :: rest) a w := by
  obtain ⟨i0, hi, hz0, hz1, hz2⟩ := info_parts infoB1
  have hrun := Lib.run_append_nil_zeros (P := Try.prog) w 34 3 o.type 5 i0 (.int .u8 0) .i64 .i64 Try.underlying34 Try.underlying3 hi hz0 n h0 (by omega) (by omega) (by rw [hz2]; omega)
  refine wpList_plain hgd fun K hK => ?_
  unfold Oper.wp execOp
  simp only [ho, resolve, invoke, builtin, Sem.run_bind, Sem.run_pure, Result.andThen_ok, List.map_toArray, List.map_cons, List.map_nil, hs, hx, hrun]
  refine hK _ _ (h _ _ ?_ ?_ ?_)
  · exact grownCap_ge _ _ _ _
  · refine ⟨by simp, Or.inr ⟨_, _, _, rfl, Nat.le_refl _, heap_alloc_new _ _, Nat.zero_le _, grownCap_le_maxLen _ _ _ _ (by unfold maxLen; omega), ?_, by simp⟩⟩
    have := grownCap_ge w n 0 5
    simp [size_zeroCells, Value.cells]
    omega
  · exact ((Below.refl _ w).drew).alloc (Nat.le_refl _) _


def catLen (els : List (Value × List Int)) (k : Nat) : Nat := ((els.take k).map Prod.snd).flatten.length
theorem catLen_succ (els : List (Value × List Int)) (k : Nat) (h : k < els.length) : catLen els (k + 1) = catLen els k + els[k].2.length := by
  unfold catLen
  rw [List.take_add_one, List.getElem?_eq_getElem h, List.map_append, List.flatten_append, List.length_append]
  congr 1
  simp
theorem catLen_le (els : List (Value × List Int)) (k : Nat) : catLen els k ≤ (els.map Prod.snd).flatten.length := by
  unfold catLen
  rw [List.map_take]
  conv => rhs; rw [← List.take_append_drop k (els.map Prod.snd)]
  rw [List.flatten_append, List.length_append]
  omega
theorem cat_succ (els : List (Value × List Int)) (k : Nat) (h : k < els.length) : ((els.take (k + 1)).map Prod.snd).flatten = ((els.take k).map Prod.snd).flatten ++ els[k].2 := by
  rw [List.take_add_one, List.getElem?_eq_getElem h, List.map_append, List.flatten_append]
  congr 1
  simp

end
end Go.Proofs.Ytjogaohnphafgaa
