/-
  Splitting into lines, appending entries, and what is read of lines. Conditions: Go's own variables hold what their initialisers lay.
-/
import Derived.Test.YtifibhaalepmgaaDoorLineW
namespace Go.Proofs.YtifibhaalepmgaaDoor
open Go Go.RowKit
set_option linter.unusedVariables false

theorem infoEntry : (Tryd.prog.info? 44).map (fun i => (i.zero, i.size, i.bytes)) = some (some (.agg #[.int .i64 0, .int .i64 0, .int .i64 0, .int .i64 0, .int .i64 0, .int .i64 0]), 6, 48) := by kernel_rfl

/-- 'append(s, e)', where e's cells lie in the block just made. -/
theorem wpList_append_cells {P : Program} {ops : Array Oper} {rest : List Oper} {o : Oper} {a : Act} {Q : Exit → Act → World → Prop} (hgd : o.guard = none) (s x : Operand) (t : TypeId)
    (ho : o.op = .call { callee := .builtin .append, args := #[s, x], argTypes := #[t, t] })
    (base : Nat) (e : TypeId) (i : TypeInfo) (z : Value) (size bytes : Nat) (ht : P.underlying t = some (.slice e)) (hi : P.info? e = some i) (hz : i.zero = some z)
    (hsize : i.size = size) (hby : i.bytes = bytes) (hzs : z.cells.size = size) (hsz : 0 < size)
    (v : Value) (n : Nat) (xs : List Value) (wr : World) (e' : TypeId) (us : List Value) (hs : a.eval s = v) (hown : wr.ownsRow base e size v n xs)
    (hx : a.eval x = .slice (some ⟨wr.heap.size, 0, none⟩) 1 1) (hl : us.length = size) (h1 : ∀ u ∈ us, u.oneCell' = true)
    (h63 : n + 1 ≤ maxLen) (hbytes : (n + 1) * bytes ≤ 140737488355328) (hbase : base ≤ wr.heap.size)
    (h : ∀ v' w', w'.ownsRow base e size v' (n + 1) (xs ++ us) → wr.grownBy w' v.ownBlock → Below base wr w' → wpList P ops Q rest (a.put o.dst v') w') :
    wpList P ops Q (o :: rest) a (wr.alloc (.cells us.toArray e')) := by
  refine wpList_append_own _ hgd s x t ho base e i z size bytes ht hi hz hsize hby hzs hsz v n xs hs (hown.alloc _) ⟨wr.heap.size, 0, none⟩ 1 1 us hx (by omega) ?_ h1 h63 hbytes (by simp; omega) ?_
  · intro j u hj
    have e1 : (⟨wr.heap.size, 0, none⟩ : Addr).add j = ⟨wr.heap.size, j, none⟩ := by unfold Addr.add; split <;> simp_all
    rw [e1, cell_of (heap_alloc_new wr _)]
    simpa using hj
  · intro v' w' hown' hg _
    refine h v' w' hown' ?_ ?_
    · exact ⟨hg.os, hg.tape, hg.output, Nat.le_trans (by simp) hg.size, fun k hk hne => (hg.block k (by simp; omega) hne).trans (heap_alloc_old wr _ hk)⟩
    · exact ((Below.refl base wr).alloc hbase _).grown hg (by simp; omega) (fun q hq => (hown.lt q hq).1)

theorem ensCells_snoc (M : List En) (e : En) : ensCells (M ++ [e]) = ensCells M ++ [.int .i64 e.k, .int .i64 e.o, .int .i64 e.p, .int .i64 e.a, .int .i64 e.l, .int .i64 e.u] := by
  simp [ensCells, En.cells]

/- Split at a line's end. -/
def LinesPost (s : ByteArray) (w : World) : Ending → World → Prop := fun e w' => ∃ ps : List ByteArray, ps.map (·.data.toList) = parts 10 s.data.toList ∧ (∀ p ∈ ps, p.size ≤ s.size) ∧ NewStrs ps w e w'
theorem lines_any (s : ByteArray) (w : World) (hs : s.size ≤ 1000000) (hl : LibAt w) :
    Calls Tryd.prog 36 #[.string s, .string { data := #[10] }] w (LinesPost s w) := by
  obtain ⟨m, hm⟩ := hl.maxl
  refine (Tryd.strings_Split s { data := #[10] } m w (by omega) hm (by decide)).mono fun e w' ⟨he, hw⟩ => ?_
  subst hw
  have e1 : (Lib.splitB { data := #[10] } 0 (Lib.countB s { data := #[10] }) s).map (·.data.toList) = parts 10 s.data.toList := by
    rw [Lib.splitB_data]
    exact split_parts 10 s.data.toList
  have e2 := Lib.splitB_all { data := #[10] } (by decide) 0 _ s rfl
  refine ⟨_, e1, fun p hp => ?_, w.heap.size, by rw [e2]; exact he, Nat.le_refl _, heap_alloc_new w _, (Below.refl _ _).alloc (Nat.le_refl _) _⟩
  have := parts_le 10 s.data.toList p.data.toList (by rw [← e1]; exact List.mem_map.2 ⟨p, hp, rfl⟩)
  have e : ∀ b : ByteArray, b.data.toList.length = b.size := fun b => Array.length_toList
  rwa [e, e] at this

theorem count_line (s : ByteArray) (w : World) :
    Calls Tryd.prog 42 #[.string s, .string { data := #[10] }] w (fun e w' => e = .returned (.int .i64 (s.data.toList.count 10 : Nat)) ∧ w = w') :=
  (Tryd.strings_Count_one s 10 w).mono fun e w' ⟨he, hw⟩ => ⟨by rw [he]; rfl, hw.symm⟩

theorem suffix_one (c : UInt8) (s : List UInt8) : Lib.hasSuffix s [c] = decide (s.getLast? = some c) := by
  unfold Lib.hasSuffix
  rcases List.eq_nil_or_concat s with rfl | ⟨l, x, rfl⟩
  · rfl
  · rw [List.concat_eq_append, List.getLast?_concat]
    by_cases h : c = x
    · subst h; simp [List.isSuffixOf]
    · simp [List.isSuffixOf, List.isPrefixOf, h, Ne.symm h]
theorem trim_one {c : UInt8} {s : List UInt8} (h : s.getLast? = some c) : Lib.trimSuffix s [c] = s.dropLast := by
  unfold Lib.trimSuffix
  rw [suffix_one, decide_eq_true h, if_pos rfl, List.dropLast_eq_take]
  rfl
def bodyA (s : ByteArray) : ByteArray := ⟨(Lib.trimSuffix s.data.toList [10]).toArray⟩
theorem cutSuffix_line (s : ByteArray) (w : World) (hs : s.size ≤ 1000000) :
    Calls Tryd.prog 43 #[.string s, .string { data := #[10] }] w (fun e w' => e = .returned (.tuple #[.string (bodyA s), .bool (decide (s.data.toList.getLast? = some 10))]) ∧ w = w') :=
  (Tryd.strings_CutSuffix s { data := #[10] } w (by omega)).mono fun e w' ⟨he, hw⟩ => ⟨by rw [he]; unfold bodyA; rw [← suffix_one], hw.symm⟩
theorem bodyA_size (s : ByteArray) : (bodyA s).size ≤ s.size := by
  have e : s.data.toList.length = s.size := Array.length_toList
  have f : ∀ l : List UInt8, (⟨l.toArray⟩ : ByteArray).size = l.length := fun l => by simp [ByteArray.size]
  unfold bodyA
  rw [f]
  unfold Lib.trimSuffix
  split
  · rw [List.length_take]; omega
  · omega

/- What is read of lines, up to one of them. -/
theorem linesEn_step (ls : List (List UInt8)) (k : Nat) (h : k < ls.length) : linesEn (ls.drop k) = match lineEn (ls.getD k []) with | none => none | some e => (linesEn (ls.drop (k + 1))).map (e :: ·) := by
  rw [List.drop_eq_getElem_cons h, List.getD_eq_getElem?_getD, List.getElem?_eq_getElem h]
  rfl
def LinesTo (ls : List (List UInt8)) (k : Nat) (M : List En) : Prop := linesEn ls = (linesEn (ls.drop k)).map (M ++ ·)
theorem LinesTo.zero (ls : List (List UInt8)) : LinesTo ls 0 [] := by unfold LinesTo; simp
theorem LinesTo.step {ls : List (List UInt8)} {k : Nat} {M : List En} {e : En} (h : LinesTo ls k M) (hk : k < ls.length) (he : lineEn (ls.getD k []) = some e) : LinesTo ls (k + 1) (M ++ [e]) := by
  unfold LinesTo at *
  rw [h, linesEn_step ls k hk, he]
  simp [Function.comp_def]
theorem LinesTo.bad {ls : List (List UInt8)} {k : Nat} {M : List En} (h : LinesTo ls k M) (hk : k < ls.length) (he : lineEn (ls.getD k []) = none) : linesEn ls = none := by
  unfold LinesTo at h
  rw [h, linesEn_step ls k hk, he]
  rfl
theorem LinesTo.all {ls : List (List UInt8)} {M : List En} (h : LinesTo ls ls.length M) : linesEn ls = some M := by
  unfold LinesTo at h
  rw [h, List.drop_length]
  simp [linesEn]

def RestTo (s : List UInt8) (r : List UInt8) (M : List En) : Prop := restEn s = (restEn r).map (M ++ ·)
theorem RestTo.zero (s : List UInt8) : RestTo s s [] := by unfold RestTo; simp
theorem RestTo.step {s r : List UInt8} {M : List En} {e : En} (h : RestTo s r M) (hr : r ≠ []) (hf : (Lib.cut r [10]).2.2 = true) (he : lineEn (Lib.cut r [10]).1 = some e) : RestTo s (Lib.cut r [10]).2.1 (M ++ [e]) := by
  unfold RestTo at *
  rw [h, restEn_step r hr, if_pos hf, he]
  simp [Function.comp_def]
theorem RestTo.bad {s r : List UInt8} {M : List En} (h : RestTo s r M) (hr : r ≠ []) (hb : (Lib.cut r [10]).2.2 = false ∨ lineEn (Lib.cut r [10]).1 = none) : restEn s = none := by
  unfold RestTo at h
  rw [h, restEn_step r hr]
  rcases hb with hb | hb
  · rw [if_neg (by simp [hb])]; rfl
  · split
    · rw [hb]; rfl
    · rfl
theorem RestTo.all {s : List UInt8} {M : List En} (h : RestTo s [] M) : restEn s = some M := by
  unfold RestTo at h
  rw [h, restEn_nil]
  simp

def ReadPost (r : List En × Int) (w : World) : Ending → World → Prop := fun e w' => ∃ v, e = .returned (.tuple #[v, .int .i64 r.2]) ∧ EnsIn w' v r.1 ∧ Below w.heap.size w w'

end Go.Proofs.YtifibhaalepmgaaDoor
