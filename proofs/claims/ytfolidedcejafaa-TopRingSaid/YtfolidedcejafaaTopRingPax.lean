/-
  A queue in memory; its Len and Room. Conditions: numbers in their bounds.
-/
import Derived.Test.YtfolidedcejafaaTopRingPan
import Derived.Test.YtfolidedcejafaaTopRingPaw
namespace Go.Proofs.Ytfolidedcejafaa
open Go.RowKit
set_option linter.unusedVariables false

structure QCh where
  b : Nat
  os : List Int
  fr : Nat
  to : Nat
def QCh.zero : QCh := ⟨0, [], 0, 0⟩
def QCh.cells (c : QCh) : List Value := [.slice (some ⟨c.b, 0, none⟩) c.os.length c.os.length, .int .i64 c.fr, .int .i64 c.to]

/-- Cells of chunks, one after the other. -/
theorem qflat_at : ∀ (L : List QCh) (k j : Nat), k < L.length → j < 3 → (L.flatMap QCh.cells)[k * 3 + j]? = ((L.getD k QCh.zero).cells)[j]?
  | [], k, _, h, _ => by simp at h
  | e :: r, 0, j, _, hj => by
    simp only [List.flatMap_cons, Nat.zero_mul, Nat.zero_add]
    rw [List.getElem?_append_left (by show j < 3; exact hj)]
    rfl
  | e :: r, k + 1, j, hk, hj => by
    simp only [List.flatMap_cons]
    rw [List.getElem?_append_right (by show 3 ≤ (k + 1) * 3 + j; omega), show (k + 1) * 3 + j - (QCh.cells e).length = k * 3 + j by show (k + 1) * 3 + j - 3 = k * 3 + j; omega]
    exact qflat_at r k j (by simpa using hk) hj
theorem qflat_len : ∀ L : List QCh, (L.flatMap QCh.cells).length = L.length * 3
  | [] => by simp
  | e :: r => by rw [List.flatMap_cons, List.length_append, qflat_len r, List.length_cons]; show 3 + r.length * 3 = _; omega
theorem qflat_take : ∀ (L : List QCh) (k : Nat), (L.flatMap QCh.cells).take (k * 3) = (L.take k).flatMap QCh.cells
  | [], k => by simp
  | e :: r, 0 => by simp
  | e :: r, k + 1 => by
    rw [List.flatMap_cons, List.take_append, show (k + 1) * 3 - (QCh.cells e).length = k * 3 by show (k + 1) * 3 - 3 = k * 3; omega, qflat_take r k, List.take_succ_cons, List.flatMap_cons, List.take_of_length_le (by show 3 ≤ (k + 1) * 3; omega)]

def qsum (f : QCh → Nat) (L : List QCh) : Nat := (L.map f).sum
theorem qsum_take (f : QCh → Nat) : ∀ (L : List QCh) (k : Nat), k < L.length → qsum f (L.take (k + 1)) = qsum f (L.take k) + f (L.getD k QCh.zero)
  | [], k, h => by simp at h
  | x :: l, 0, _ => by simp [qsum]
  | x :: l, k + 1, h => by
    have := qsum_take f l k (by simpa using h)
    simp only [qsum, List.take_succ_cons, List.map_cons, List.sum_cons, List.getD_cons_succ] at this ⊢
    omega
theorem qsum_le (f : QCh → Nat) (B : Nat) : ∀ (L : List QCh), (∀ x ∈ L, f x ≤ B) → qsum f L ≤ L.length * B
  | [], _ => by simp [qsum]
  | x :: l, h => by
    have := qsum_le f B l (fun y hy => h y (by simp [hy]))
    have := h x (by simp)
    simp only [qsum, List.map_cons, List.sum_cons, List.length_cons, Nat.add_mul] at *
    omega
theorem qsum_app (f : QCh → Nat) (L M : List QCh) : qsum f (L ++ M) = qsum f L + qsum f M := by simp [qsum]
theorem qgetD_in {L : List QCh} {k : Nat} (h : k < L.length) : L.getD k QCh.zero ∈ L := by rw [List.getD_eq_getElem?_getD, List.getElem?_eq_getElem h]; simp

def QCh.len (c : QCh) : Nat := c.to - c.fr
def QCh.room (c : QCh) : Nat := c.os.length
def QChsOk (L : List QCh) : Prop := L.length ≤ 500 ∧ ∀ c ∈ L, c.fr ≤ c.to ∧ c.to ≤ c.os.length ∧ c.os.length ≤ 100000
theorem QChsOk.sum {L : List QCh} (h : QChsOk L) (k : Nat) : qsum QCh.len (L.take k) ≤ 50000000 := by
  have h1 := qsum_le QCh.len 100000 (L.take k) (fun x hx => by have := h.2 x (List.mem_of_mem_take hx); unfold QCh.len; omega)
  have h3 := h.1
  have h4 : (L.take k).length ≤ 500 := by rw [List.length_take]; omega
  have := Nat.mul_le_mul_right 100000 h4
  omega
theorem QChsOk.sumR {L : List QCh} (h : QChsOk L) (k : Nat) : qsum QCh.room (L.take k) ≤ 50000000 := by
  have h1 := qsum_le QCh.room 100000 (L.take k) (fun x hx => (h.2 x (List.mem_of_mem_take hx)).2.2)
  have h3 := h.1
  have h4 : (L.take k).length ≤ 500 := by rw [List.length_take]; omega
  have := Nat.mul_le_mul_right 100000 h4
  omega

/-- The chunks, as a reader sees them. -/
def QChsIn (w : World) (v : Value) (L : List QCh) : Prop :=
  ∃ a cap, v = .slice a L.length cap ∧ L.length ≤ cap ∧ cap ≤ 9223372036854775807 ∧ ∀ k, k < L.length → ∃ b o, a = some ⟨b, o, none⟩ ∧
    w.cell? ⟨b, o + k * 3, none⟩ = some (.slice (some ⟨(L.getD k QCh.zero).b, 0, none⟩) (L.getD k QCh.zero).os.length (L.getD k QCh.zero).os.length) ∧ w.cell? ⟨b, o + k * 3 + 1, none⟩ = some (.int .i64 (L.getD k QCh.zero).fr) ∧ w.cell? ⟨b, o + k * 3 + 2, none⟩ = some (.int .i64 (L.getD k QCh.zero).to)
theorem qadd_spot (g j : Nat) : (⟨g, 0, none⟩ : Addr).add j = ⟨g, 0 + j, none⟩ := by unfold Addr.add; split <;> simp_all
theorem QChsIn.own {w : World} {B e : Nat} {v : Value} {L : List QCh} (h : w.ownsRow B e 3 v L.length (L.flatMap QCh.cells)) : QChsIn w v L := by
  rcases h.2 with ⟨rfl, h0⟩ | ⟨g, cap, cur, rfl, hb, hg, hn, hc, hs, ht⟩
  · have : L = [] := by cases L with | nil => rfl | cons x l => simp at h0
    subst this
    exact ⟨none, 0, rfl, by simp, by omega, fun k hk => by simp at hk⟩
  · refine ⟨some ⟨g, 0, none⟩, cap, rfl, hn, by unfold maxLen at hc; omega, fun k hk => ⟨g, 0, rfl, ?_⟩⟩
    have f : ∀ j u, j < 3 → (L.getD k QCh.zero).cells[j]? = some u → w.cell? ⟨g, 0 + (k * 3 + j), none⟩ = some u := fun j u hj hu => by
      have hx := qflat_at L k j hk hj
      rw [hu] at hx
      have := h.cells (g := g) rfl (k * 3 + j) _ hx
      rwa [qadd_spot] at this
    exact ⟨f 0 _ (by omega) rfl, f 1 _ (by omega) rfl, f 2 _ (by omega) rfl⟩

def quCells (bp : Nat) (o k s m sz : Int) (cv : Value) : Array Value :=
  #[.pointer (some ⟨bp, 0, none⟩), .int .i64 o, .int .i64 k, .int .i64 s, .int .i64 m, .int .i64 sz, .bool false, cv]
/-- What a queue is: its book, owner, policy and size. -/
structure QuId where
  r : Nat
  bp : Nat
  o : Int
  k : Int
  s : Int
  m : Int
  sz : Int

structure QuMem (w : World) (F : Nat → Prop) (I : QuId) (L : List QCh) (cv : Value) : Prop where
  self : w.heap[I.r]? = some (.cells (quCells I.bp I.o I.k I.s I.m I.sz cv) 112 (0, 0))
  fr : F I.r
  crow : w.ownsRow 0 117 3 cv L.length (L.flatMap QCh.cells)
  fc : ∀ k, cv.ownBlock = some k → F k
  mem : ∀ c ∈ L, byteRow w c.b c.os ∧ F c.b
  inj : (L.map QCh.b).Nodup

theorem QuMem.same {w w' : World} {F : Nat → Prop} {I : QuId} {L : List QCh} {cv : Value} (h : QuMem w F I L cv) (hs : SameOn F w w') : QuMem w' F I L cv where
  self := (hs _ h.fr (lt_of h.self)).trans h.self
  fr := h.fr
  crow := ownsRow_same h.crow (fun k hk => hs k (h.fc k hk) (h.crow.lt k hk).2)
  fc := h.fc
  mem := fun c hc => ⟨(hs _ (h.mem c hc).2 (lt_of (h.mem c hc).1)).trans (h.mem c hc).1, (h.mem c hc).2⟩
  inj := h.inj
theorem QuMem.below {w w' : World} {F : Nat → Prop} {I : QuId} {L : List QCh} {cv : Value} (h : QuMem w F I L cv) (hs : Below w.heap.size w w') : QuMem w' F I L cv := h.same (Below.same_on hs)
theorem QuMem.wider {w : World} {F G : Nat → Prop} {I : QuId} {L : List QCh} {cv : Value} (h : QuMem w F I L cv) (hG : ∀ k, F k → G k) : QuMem w G I L cv where
  self := h.self
  fr := hG _ h.fr
  crow := h.crow
  fc := fun k hk => hG _ (h.fc k hk)
  mem := fun c hc => ⟨(h.mem c hc).1, hG _ (h.mem c hc).2⟩
  inj := h.inj
theorem QuMem.narrow {w : World} {F : Nat → Prop} {I : QuId} {L : List QCh} {cv : Value} (h : QuMem w F I L cv) : QuMem w (fun k => F k ∧ k < w.heap.size) I L cv where
  self := h.self
  fr := ⟨h.fr, lt_of h.self⟩
  crow := h.crow
  fc := fun k hk => ⟨h.fc k hk, (h.crow.lt k hk).2⟩
  mem := fun c hc => ⟨(h.mem c hc).1, (h.mem c hc).2, lt_of (h.mem c hc).1⟩
  inj := h.inj
theorem QuMem.chs {w : World} {F : Nat → Prop} {I : QuId} {L : List QCh} {cv : Value} (h : QuMem w F I L cv) : QChsIn w cv L := QChsIn.own h.crow

theorem within_ring_yes (n lo hi : Int) (w : World) (h1 : lo ≤ n) (h2 : n ≤ hi) :
    Calls Try.prog 52 #[.int .i64 n, .int .i64 lo, .int .i64 hi] w fun e w' => e = .returned (.bool true) ∧ w = w' := by
  go_enter Try.func52, Try.ntmps52
  go_wp2
  go_ret
  exact ⟨rfl, rfl⟩
theorem within_ring_no (n lo hi : Int) (w : World) (h : ¬ (lo ≤ n ∧ n ≤ hi)) :
    Calls Try.prog 52 #[.int .i64 n, .int .i64 lo, .int .i64 hi] w fun e w' => e = .returned (.bool false) ∧ w = w' := by
  by_cases h1 : lo ≤ n
  · have h2 : hi < n := by omega
    clear h
    go_enter Try.func52, Try.ntmps52
    go_wp2
    go_ret
    first | exact ⟨rfl, rfl⟩ | exact ⟨ret_bool (decide_eq_false (by omega)), rfl⟩
  · have h2 : n < lo := by omega
    clear h h1
    go_enter Try.func52, Try.ntmps52
    go_wp2
    go_ret
    first | exact ⟨rfl, rfl⟩ | exact ⟨ret_bool (decide_eq_false (by omega)), rfl⟩

def QIntPost (n : Int) (w : World) : Ending → World → Prop := fun e w' => e = .returned (.int .i64 n) ∧ Below w.heap.size w w'

set_option maxHeartbeats 1000000 in
set_option maxRecDepth 100000 in
theorem qLen_any (I : QuId) (F : Nat → Prop) (L : List QCh) (cv : Value) (w : World) (h : QuMem w F I L cv) (hok : QChsOk L) :
    Calls Try.prog 31 #[.pointer (some ⟨I.r, 0, none⟩)] w (QIntPost (qsum QCh.len L : Nat) w) := by
  have c7 : w.cell? ⟨I.r, 7, none⟩ = some cv := by rw [cell_of h.self]; rfl
  obtain ⟨a, cap, rfl, h1, h2, hc⟩ := h.chs
  have HC := Lib.hid hc
  have OK := Lib.hid hok
  generalize I.r = r at *
  clear hc h hok
  have b63 : L.length ≤ 500 := OK.out.1
  go_enter Try.func31, Try.ntmps31
  go_wp2_with fail
  go_loopw [3, 11] (fun n i wr => ∃ k : Nat, k ≤ L.length ∧ i = .int .i64 k ∧ n = .int .i64 (qsum QCh.len (L.take k) : Nat) ∧ Below w.heap.size w wr) (fun _ i _ => L.length - (intOf i).toNat)
  case atStart => exact ⟨0, Nat.zero_le _, rfl, by simp [qsum], Below.refl _ _⟩
  case round =>
    obtain ⟨k, hk, rfl, rfl, hb⟩ := hrel
    have hs := OK.out.sum k
    have hsz := hb.size
    have BL := Lib.hid hb
    by_cases hlt : k < L.length
    · obtain ⟨b, o, rfl, d0, d1, d2⟩ := HC.out k hlt
      have e0 := old_cell hb d0
      have e1 := old_cell hb d1
      have e2 := old_cell hb d2
      have S := Lib.hid (qsum_take QCh.len L k hlt)
      obtain ⟨q1, q2, q3⟩ := OK.out.2 _ (qgetD_in hlt)
      clear d0 d1 d2 hb
      generalize L.getD k QCh.zero = x at *
      generalize qsum QCh.len (L.take k) = N at *
      go_wp2_with fail
      go_round
      case rel => exact ⟨k + 1, by omega, by go_num, by rw [S.out]; unfold QCh.len; congr 1; omega, BL.out.alloc hsz _⟩
      case measure => simp [intOf]; omega
    · obtain rfl : k = L.length := by omega
      clear hlt hk hb
      rw [List.take_length] at hs ⊢
      go_wp2_with fail
      go_ret
      exact ⟨rfl, BL.out⟩

set_option maxHeartbeats 1000000 in
set_option maxRecDepth 100000 in
theorem qRoom_any (I : QuId) (F : Nat → Prop) (L : List QCh) (cv : Value) (w : World) (h : QuMem w F I L cv) (hok : QChsOk L) :
    Calls Try.prog 33 #[.pointer (some ⟨I.r, 0, none⟩)] w (QIntPost (qsum QCh.room L : Nat) w) := by
  have c7 : w.cell? ⟨I.r, 7, none⟩ = some cv := by rw [cell_of h.self]; rfl
  obtain ⟨a, cap, rfl, h1, h2, hc⟩ := h.chs
  have HC := Lib.hid hc
  have OK := Lib.hid hok
  generalize I.r = r at *
  clear hc h hok
  have b63 : L.length ≤ 500 := OK.out.1
  go_enter Try.func33, Try.ntmps33
  go_wp2_with fail
  go_loopw [3, 11] (fun n i wr => ∃ k : Nat, k ≤ L.length ∧ i = .int .i64 k ∧ n = .int .i64 (qsum QCh.room (L.take k) : Nat) ∧ Below w.heap.size w wr) (fun _ i _ => L.length - (intOf i).toNat)
  case atStart => exact ⟨0, Nat.zero_le _, rfl, by simp [qsum], Below.refl _ _⟩
  case round =>
    obtain ⟨k, hk, rfl, rfl, hb⟩ := hrel
    have hs := OK.out.sumR k
    have hsz := hb.size
    have BL := Lib.hid hb
    by_cases hlt : k < L.length
    · obtain ⟨b, o, rfl, d0, d1, d2⟩ := HC.out k hlt
      have e0 := old_cell hb d0
      have e1 := old_cell hb d1
      have e2 := old_cell hb d2
      have S := Lib.hid (qsum_take QCh.room L k hlt)
      obtain ⟨q1, q2, q3⟩ := OK.out.2 _ (qgetD_in hlt)
      clear d0 d1 d2 hb
      generalize L.getD k QCh.zero = x at *
      generalize qsum QCh.room (L.take k) = N at *
      have S2 : Hid (qsum QCh.room (L.take (k + 1)) = N + x.os.length) := Lib.hid S.out
      clear S
      generalize x.os.length = xl at *
      go_wp2_with fail
      go_round
      case rel => exact ⟨k + 1, by omega, by go_num, by rw [S2.out]; congr 1, BL.out.alloc hsz _⟩
      case measure => simp [intOf]; omega
    · obtain rfl : k = L.length := by omega
      clear hlt hk hb
      rw [List.take_length] at hs ⊢
      go_wp2_with fail
      go_ret
      exact ⟨rfl, BL.out⟩

end Go.Proofs.Ytfolidedcejafaa
