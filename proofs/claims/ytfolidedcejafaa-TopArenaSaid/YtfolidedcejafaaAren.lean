/-
  An arena in memory, and what its reading methods give. Conditions: numbers in their bounds.
-/
import Derived.Test.YtfolidedcejafaaTakeGive
import Derived.Test.YtfolidedcejafaaRingPut
namespace Go.Proofs.Ytfolidedcejafaa
open Go.RowKit
set_option linter.unusedVariables false

structure Reg where
  no : Int
  ch : Nat
  fr : Nat
  to : Nat
structure Mk where
  no : Int
  many : Nat
  en : Nat
structure Chk where
  b : Nat
  os : List Int
def Reg.zero : Reg := ⟨0, 0, 0, 0⟩
def Mk.zero : Mk := ⟨0, 0, 0⟩
def Chk.zero : Chk := ⟨0, []⟩
def Reg.cells (r : Reg) : List Value := [.int .i64 r.no, .int .i64 r.ch, .int .i64 r.fr, .int .i64 r.to]
def Mk.cells (m : Mk) : List Value := [.int .i64 m.no, .int .i64 m.many, .int .i64 m.en]
def Chk.val (c : Chk) : Value := .slice (some ⟨c.b, 0, none⟩) c.os.length c.os.length

/-- Cells of structs of one size, one after the other. -/
theorem flat_at {α : Type} (f : α → List Value) (n : Nat) (hf : ∀ x, (f x).length = n) (z : α) : ∀ (L : List α) (k j : Nat), k < L.length → j < n → (L.flatMap f)[k * n + j]? = (f (L.getD k z))[j]?
  | [], k, _, h, _ => by simp at h
  | e :: r, 0, j, _, hj => by
    simp only [List.flatMap_cons, Nat.zero_mul, Nat.zero_add]
    rw [List.getElem?_append_left (by rw [hf]; exact hj)]
    rfl
  | e :: r, k + 1, j, hk, hj => by
    simp only [List.flatMap_cons]
    rw [List.getElem?_append_right (by rw [hf, Nat.add_mul]; omega), show (k + 1) * n + j - (f e).length = k * n + j by rw [hf, Nat.add_mul]; omega]
    exact flat_at f n hf z r k j (by simpa using hk) hj
theorem flat_len {α : Type} (f : α → List Value) (n : Nat) (hf : ∀ x, (f x).length = n) : ∀ L : List α, (L.flatMap f).length = L.length * n
  | [] => by simp
  | e :: r => by rw [List.flatMap_cons, List.length_append, hf, flat_len f n hf r, List.length_cons, Nat.add_mul]; omega
theorem flat_take {α : Type} (f : α → List Value) (n : Nat) (hf : ∀ x, (f x).length = n) : ∀ (L : List α) (k : Nat), (L.flatMap f).take (k * n) = (L.take k).flatMap f
  | [], k => by simp
  | e :: r, 0 => by simp
  | e :: r, k + 1 => by
    rw [List.flatMap_cons, List.take_append, hf, show (k + 1) * n - n = k * n by rw [Nat.add_mul]; omega, flat_take f n hf r k, List.take_succ_cons, List.flatMap_cons, List.take_of_length_le (by rw [hf, Nat.add_mul]; omega)]

/-- The rows of an arena, as a reader sees them. -/
def RegsIn (w : World) (v : Value) (L : List Reg) : Prop :=
  ∃ a cap, v = .slice a L.length cap ∧ L.length ≤ cap ∧ cap ≤ 9223372036854775807 ∧ ∀ k, k < L.length → ∃ b o, a = some ⟨b, o, none⟩ ∧
    w.cell? ⟨b, o + k * 4, none⟩ = some (.int .i64 (L.getD k Reg.zero).no) ∧ w.cell? ⟨b, o + k * 4 + 1, none⟩ = some (.int .i64 (L.getD k Reg.zero).ch) ∧ w.cell? ⟨b, o + k * 4 + 2, none⟩ = some (.int .i64 (L.getD k Reg.zero).fr) ∧ w.cell? ⟨b, o + k * 4 + 3, none⟩ = some (.int .i64 (L.getD k Reg.zero).to)
def MksIn (w : World) (v : Value) (L : List Mk) : Prop :=
  ∃ a cap, v = .slice a L.length cap ∧ L.length ≤ cap ∧ cap ≤ 9223372036854775807 ∧ ∀ k, k < L.length → ∃ b o, a = some ⟨b, o, none⟩ ∧
    w.cell? ⟨b, o + k * 3, none⟩ = some (.int .i64 (L.getD k Mk.zero).no) ∧ w.cell? ⟨b, o + k * 3 + 1, none⟩ = some (.int .i64 (L.getD k Mk.zero).many) ∧ w.cell? ⟨b, o + k * 3 + 2, none⟩ = some (.int .i64 (L.getD k Mk.zero).en)
def ChksIn (w : World) (v : Value) (L : List Chk) : Prop :=
  ∃ a cap, v = .slice a L.length cap ∧ L.length ≤ cap ∧ cap ≤ 9223372036854775807 ∧ ∀ k, k < L.length → ∃ b o, a = some ⟨b, o, none⟩ ∧ w.cell? ⟨b, o + k, none⟩ = some (L.getD k Chk.zero).val

theorem add_spot (g j : Nat) : (⟨g, 0, none⟩ : Addr).add j = ⟨g, 0 + j, none⟩ := by unfold Addr.add; split <;> simp_all
theorem RegsIn.own {w : World} {B e : Nat} {v : Value} {L : List Reg} (h : w.ownsRow B e 4 v L.length (L.flatMap Reg.cells)) : RegsIn w v L := by
  rcases h.2 with ⟨rfl, h0⟩ | ⟨g, cap, cur, rfl, hb, hg, hn, hc, hs, ht⟩
  · have : L = [] := by cases L with | nil => rfl | cons x l => simp at h0
    subst this
    exact ⟨none, 0, rfl, by simp, by omega, fun k hk => by simp at hk⟩
  · refine ⟨some ⟨g, 0, none⟩, cap, rfl, hn, by unfold maxLen at hc; omega, fun k hk => ⟨g, 0, rfl, ?_⟩⟩
    have f : ∀ j u, j < 4 → (L.getD k Reg.zero).cells[j]? = some u → w.cell? ⟨g, 0 + (k * 4 + j), none⟩ = some u := fun j u hj hu => by
      have hx := flat_at Reg.cells 4 (fun _ => rfl) Reg.zero L k j hk hj
      rw [hu] at hx
      have := h.cells (g := g) rfl (k * 4 + j) _ hx
      rwa [add_spot] at this
    exact ⟨f 0 _ (by omega) rfl, f 1 _ (by omega) rfl, f 2 _ (by omega) rfl, f 3 _ (by omega) rfl⟩
theorem MksIn.own {w : World} {B e : Nat} {v : Value} {L : List Mk} (h : w.ownsRow B e 3 v L.length (L.flatMap Mk.cells)) : MksIn w v L := by
  rcases h.2 with ⟨rfl, h0⟩ | ⟨g, cap, cur, rfl, hb, hg, hn, hc, hs, ht⟩
  · have : L = [] := by cases L with | nil => rfl | cons x l => simp at h0
    subst this
    exact ⟨none, 0, rfl, by simp, by omega, fun k hk => by simp at hk⟩
  · refine ⟨some ⟨g, 0, none⟩, cap, rfl, hn, by unfold maxLen at hc; omega, fun k hk => ⟨g, 0, rfl, ?_⟩⟩
    have f : ∀ j u, j < 3 → (L.getD k Mk.zero).cells[j]? = some u → w.cell? ⟨g, 0 + (k * 3 + j), none⟩ = some u := fun j u hj hu => by
      have hx := flat_at Mk.cells 3 (fun _ => rfl) Mk.zero L k j hk hj
      rw [hu] at hx
      have := h.cells (g := g) rfl (k * 3 + j) _ hx
      rwa [add_spot] at this
    exact ⟨f 0 _ (by omega) rfl, f 1 _ (by omega) rfl, f 2 _ (by omega) rfl⟩
theorem ChksIn.own {w : World} {B e : Nat} {v : Value} {L : List Chk} (h : w.ownsRow B e 1 v L.length (L.map Chk.val)) : ChksIn w v L := by
  rcases h.2 with ⟨rfl, h0⟩ | ⟨g, cap, cur, rfl, hb, hg, hn, hc, hs, ht⟩
  · have : L = [] := by cases L with | nil => rfl | cons x l => simp at h0
    subst this
    exact ⟨none, 0, rfl, by simp, by omega, fun k hk => by simp at hk⟩
  · refine ⟨some ⟨g, 0, none⟩, cap, rfl, hn, by unfold maxLen at hc; omega, fun k hk => ⟨g, 0, rfl, ?_⟩⟩
    have := h.cells (g := g) rfl k (L.getD k Chk.zero).val (by rw [List.getElem?_map, List.getD_eq_getElem?_getD, List.getElem?_eq_getElem hk]; rfl)
    rwa [add_spot] at this
theorem RegsIn.below {w w' : World} {v : Value} {L : List Reg} (h : RegsIn w v L) (hb : Below w.heap.size w w') : RegsIn w' v L := by
  obtain ⟨a, cap, rfl, h1, h2, hc⟩ := h
  refine ⟨a, cap, rfl, h1, h2, fun k hk => ?_⟩
  obtain ⟨b, o, ha, c0, c1, c2, c3⟩ := hc k hk
  have hlt := World.block_lt_of_cell? w _ c0
  have f : ∀ j, w'.cell? ⟨b, j, none⟩ = w.cell? ⟨b, j, none⟩ := fun j => hb.cell (p := ⟨b, j, none⟩) hlt
  exact ⟨b, o, ha, (f _).trans c0, (f _).trans c1, (f _).trans c2, (f _).trans c3⟩

def arCells (bp : Nat) (o k s m sz : Int) (cv rv mv : Value) (lr lm pk : Int) : Array Value :=
  #[.pointer (some ⟨bp, 0, none⟩), .int .i64 o, .int .i64 k, .int .i64 s, .int .i64 m, .int .i64 sz, .bool false, cv, rv, mv, .int .i64 lr, .int .i64 lm, .int .i64 pk]

/-- What an arena has. -/
structure ArSt where
  chunks : List Chk
  regs : List Reg
  marks : List Mk
  lr : Int
  lm : Int
  pk : Int
/-- What an arena is: its book, owner, policy and size. -/
structure ArId where
  r : Nat
  bp : Nat
  o : Int
  k : Int
  s : Int
  m : Int
  sz : Int

structure ArMem (w : World) (F : Nat → Prop) (I : ArId) (st : ArSt) (cv rv mv : Value) : Prop where
  self : w.heap[I.r]? = some (.cells (arCells I.bp I.o I.k I.s I.m I.sz cv rv mv st.lr st.lm st.pk) 85 (0, 0))
  fr : F I.r
  crow : w.ownsRow 0 46 1 cv st.chunks.length (st.chunks.map Chk.val)
  fc : ∀ k, cv.ownBlock = some k → F k
  rrow : w.ownsRow 0 94 4 rv st.regs.length (st.regs.flatMap Reg.cells)
  frg : ∀ k, rv.ownBlock = some k → F k
  mrow : w.ownsRow 0 88 3 mv st.marks.length (st.marks.flatMap Mk.cells)
  fm : ∀ k, mv.ownBlock = some k → F k
  mem : ∀ c ∈ st.chunks, byteRow w c.b c.os ∧ F c.b
  inj : (st.chunks.map Chk.b).Nodup

theorem ArMem.same {w w' : World} {F : Nat → Prop} {I : ArId} {st : ArSt} {cv rv mv : Value} (h : ArMem w F I st cv rv mv) (hs : SameOn F w w') : ArMem w' F I st cv rv mv where
  self := (hs _ h.fr (lt_of h.self)).trans h.self
  fr := h.fr
  crow := ownsRow_same h.crow (fun k hk => hs k (h.fc k hk) (h.crow.lt k hk).2)
  fc := h.fc
  rrow := ownsRow_same h.rrow (fun k hk => hs k (h.frg k hk) (h.rrow.lt k hk).2)
  frg := h.frg
  mrow := ownsRow_same h.mrow (fun k hk => hs k (h.fm k hk) (h.mrow.lt k hk).2)
  fm := h.fm
  mem := fun c hc => ⟨(hs _ (h.mem c hc).2 (lt_of (h.mem c hc).1)).trans (h.mem c hc).1, (h.mem c hc).2⟩
  inj := h.inj
theorem ArMem.below {w w' : World} {F : Nat → Prop} {I : ArId} {st : ArSt} {cv rv mv : Value} (h : ArMem w F I st cv rv mv) (hs : Below w.heap.size w w') : ArMem w' F I st cv rv mv := h.same (Below.same_on hs)
theorem ArMem.wider {w : World} {F G : Nat → Prop} {I : ArId} {st : ArSt} {cv rv mv : Value} (h : ArMem w F I st cv rv mv) (hG : ∀ k, F k → G k) : ArMem w G I st cv rv mv where
  self := h.self
  fr := hG _ h.fr
  crow := h.crow
  fc := fun k hk => hG _ (h.fc k hk)
  rrow := h.rrow
  frg := fun k hk => hG _ (h.frg k hk)
  mrow := h.mrow
  fm := fun k hk => hG _ (h.fm k hk)
  mem := fun c hc => ⟨(h.mem c hc).1, hG _ (h.mem c hc).2⟩
  inj := h.inj
theorem ArMem.narrow {w : World} {F : Nat → Prop} {I : ArId} {st : ArSt} {cv rv mv : Value} (h : ArMem w F I st cv rv mv) : ArMem w (fun k => F k ∧ k < w.heap.size) I st cv rv mv where
  self := h.self
  fr := ⟨h.fr, lt_of h.self⟩
  crow := h.crow
  fc := fun k hk => ⟨h.fc k hk, (h.crow.lt k hk).2⟩
  rrow := h.rrow
  frg := fun k hk => ⟨h.frg k hk, (h.rrow.lt k hk).2⟩
  mrow := h.mrow
  fm := fun k hk => ⟨h.fm k hk, (h.mrow.lt k hk).2⟩
  mem := fun c hc => ⟨(h.mem c hc).1, (h.mem c hc).2, lt_of (h.mem c hc).1⟩
  inj := h.inj
theorem ArMem.regs {w : World} {F : Nat → Prop} {I : ArId} {st : ArSt} {cv rv mv : Value} (h : ArMem w F I st cv rv mv) : RegsIn w rv st.regs := RegsIn.own h.rrow
theorem ArMem.mks {w : World} {F : Nat → Prop} {I : ArId} {st : ArSt} {cv rv mv : Value} (h : ArMem w F I st cv rv mv) : MksIn w mv st.marks := MksIn.own h.mrow
theorem ArMem.chks {w : World} {F : Nat → Prop} {I : ArId} {st : ArSt} {cv rv mv : Value} (h : ArMem w F I st cv rv mv) : ChksIn w cv st.chunks := ChksIn.own h.crow

theorem within_arena_yes (n lo hi : Int) (w : World) (h1 : lo ≤ n) (h2 : n ≤ hi) :
    Calls Try.prog 38 #[.int .i64 n, .int .i64 lo, .int .i64 hi] w fun e w' => e = .returned (.bool true) ∧ w = w' := by
  go_enter Try.func38, Try.ntmps38
  go_wp2
  go_ret
  exact ⟨rfl, rfl⟩
theorem within_arena_no (n lo hi : Int) (w : World) (h : ¬ (lo ≤ n ∧ n ≤ hi)) :
    Calls Try.prog 38 #[.int .i64 n, .int .i64 lo, .int .i64 hi] w fun e w' => e = .returned (.bool false) ∧ w = w' := by
  by_cases h1 : lo ≤ n
  · have h2 : hi < n := by omega
    clear h
    go_enter Try.func38, Try.ntmps38
    go_wp2
    go_ret
    first | exact ⟨rfl, rfl⟩ | exact ⟨ret_bool (decide_eq_false (by omega)), rfl⟩
  · have h2 : n < lo := by omega
    clear h h1
    go_enter Try.func38, Try.ntmps38
    go_wp2
    go_ret
    first | exact ⟨rfl, rfl⟩ | exact ⟨ret_bool (decide_eq_false (by omega)), rfl⟩

/- last -/
set_option maxRecDepth 100000 in
theorem last_nil (r bp : Nat) (o k s m sz : Int) (cv : Value) (a : Option Addr) (cap : Nat) (mv : Value) (lr lm pk : Int) (w : World) (h : w.heap[r]? = some (.cells (arCells bp o k s m sz cv (.slice a 0 cap) mv lr lm pk) 85 (0, 0))) :
    Calls Try.prog 40 #[.pointer (some ⟨r, 0, none⟩)] w (fun e w' => e = .returned (.pointer none) ∧ w = w') := by
  have c8 : w.cell? ⟨r, 8, none⟩ = some (.slice a 0 cap) := by rw [cell_of h]; rfl
  clear h
  go_enter Try.func40, Try.ntmps40
  go_wp2_with fail
  go_ret
  exact ⟨rfl, rfl⟩
set_option maxRecDepth 100000 in
theorem last_some (r bp : Nat) (o k s m sz : Int) (cv : Value) (b x n cap : Nat) (mv : Value) (lr lm pk : Int) (w : World) (h : w.heap[r]? = some (.cells (arCells bp o k s m sz cv (.slice (some ⟨b, x, none⟩) n cap) mv lr lm pk) 85 (0, 0))) (hn : 0 < n) (hm : n ≤ 1000000) :
    Calls Try.prog 40 #[.pointer (some ⟨r, 0, none⟩)] w (fun e w' => e = .returned (.pointer (some ⟨b, x + (n - 1) * 4, none⟩)) ∧ ∃ q, w' = w.drewN q) := by
  have c8 : w.cell? ⟨r, 8, none⟩ = some (.slice (some ⟨b, x, none⟩) n cap) := by rw [cell_of h]; rfl
  have e1 : ((n : Int) - 1).toNat = n - 1 := by omega
  clear h
  go_enter Try.func40, Try.ntmps40
  go_wp2_with fail
  go_quiet (fail)
  go_wp2_with fail
  go_ret
  exact ⟨rfl, _, rfl⟩

end Go.Proofs.Ytfolidedcejafaa
