/-
  A rope beside a plain string: what holds between the steps of TopRope. Conditions: numbers in their bounds.
-/
import Derived.Test.YtidfidknflcioaaTopRopePbu
import Derived.Test.YtidfidknflcioaaTopRopePbw
import Derived.Laws.BytesArg
namespace Go.Proofs.Ytidfidknflcioaa
open Go.RowKit
set_option linter.unusedVariables false

theorem conv_own {w : World} {B : Nat} {v : Value} {xs : List Int} (h : w.ownsRow B 5 1 v xs.length (xs.map (Value.int .u8))) : (convert 32 9 v).run Try.prog w = .ok (.string (strOfNums xs)) w := by
  rcases h.2 with ⟨rfl, h0⟩ | ⟨g, cap, cur, rfl, _⟩
  · have : xs = [] := List.eq_nil_of_length_eq_zero h0
    subst this
    have := run_convert_bytes_nil (P := Try.prog) w 32 5 Try.underlying32 Try.underlying5 0 0 9 Try.underlying9
    rw [this]
    rfl
  · refine run_convert_bytes_arg (P := Try.prog) w 32 5 Try.underlying32 Try.underlying5 g 0 _ cap xs rfl (fun i hi => ?_) 9 Try.underlying9
    obtain ⟨g', e, hc, _⟩ := wrow_cell h (j := i) (u := .int .u8 (xs.getD i 0)) (by rw [List.getElem?_map, List.getElem?_eq_getElem hi, List.getD_eq_getElem?_getD, List.getElem?_eq_getElem hi]; rfl)
    cases e
    rw [Nat.zero_add]
    exact hc

theorem bytesEq_own (v1 v2 : Value) (xs : List Int) (w : World) {B1 B2 : Nat} (h1 : w.ownsRow B1 5 1 v1 xs.length (xs.map (Value.int .u8))) (h2 : w.ownsRow B2 5 1 v2 xs.length (xs.map (Value.int .u8))) :
    Calls Try.prog 20 #[v1, v2] w (fun e w' => e = .returned (.bool true) ∧ w' = w) := by
  have c1 := conv_own h1
  have c2 := conv_own h2
  clear h1 h2
  go_enter Try.func20, Try.ntmps20
  go_wp2_with fail
  go_ret
  exact ⟨by simp, rfl⟩

/-- The rope x has the octets of the plain string that v is. -/
structure RopAt (B : Nat) (w : World) (x : RS) (v : Value) : Prop where
  at' : x.At w
  bx : ∀ k, x.T k → B ≤ k
  row : w.ownsRow 0 5 1 v (octC x.lc).length ((octC x.lc).map (Value.int .u8))
  ap : ∀ k, v.ownBlock = some k → ¬ x.T k
theorem RopAt.below {B : Nat} {w w' : World} {x : RS} {v : Value} (h : RopAt B w x v) (hb : Below w.heap.size w w') : RopAt B w' x v :=
  ⟨h.at'.below hb, h.bx, row_kept h.row hb, h.ap⟩
theorem RopAt.step {B : Nat} {w w' : World} {x x' : RS} {v : Value} (h : RopAt B w x v) (hB : B ≤ w.heap.size) (ha : x'.At w') (ho : octC x'.lc = octC x.lc) (hT : ∀ k, x'.T k → x.T k ∨ w.heap.size ≤ k) (ht : Touch x.T w w') : RopAt B w' x' v :=
  ⟨ha, fun k hk => (hT k hk).elim (h.bx k) (fun h => by omega), by rw [ho]; exact ownsRow_same h.row (fun k hk => ht.block k (h.row.lt k hk).2 (h.ap k hk)), fun k hk hx => (hT k hx).elim (h.ap k hk) (fun h2 => by have := (h.row.lt k hk).2; omega)⟩
theorem RopAt.put {B : Nat} {w w' w2 : World} {x x' : RS} {v v' : Value} (h : RopAt B w x v) (hB : B ≤ w.heap.size) (ha : x'.At w') (hT : ∀ k, x'.T k → x.T k ∨ w.heap.size ≤ k) (hs : w.heap.size ≤ w'.heap.size) (hb : Below w'.heap.size w' w2) (hr : w2.ownsRow w'.heap.size 5 1 v' (octC x'.lc).length ((octC x'.lc).map (Value.int .u8))) : RopAt B w2 x' v' :=
  ⟨ha.below hb, fun k hk => (hT k hk).elim (h.bx k) (fun h => by omega), row_low hr (Nat.zero_le _), fun k hk hx => by have h1 := (hr.lt k hk).1; have h2 := ha.lt hx; omega⟩
theorem RS.At.octlen {x : RS} {w : World} (h : x.At w) : (octC x.lc).length = (totS x.sz).1 := by rw [octC_len, h.szC]
theorem RS.At.oct50 {x : RS} {w : World} (h : x.At w) : (octC x.lc).length ≤ 50000 := by rw [h.octlen]; exact h.oct
theorem RopAt.shape {B : Nat} {w : World} {x : RS} {v : Value} (h : RopAt B w x v) : ∃ a c, v = .slice a (octC x.lc).length c ∧ (octC x.lc).length ≤ c ∧ c ≤ 9223372036854775807 ∧ Reads w .u8 v (octC x.lc) ∧ ∀ b o, a = some ⟨b, o, none⟩ → True := by
  obtain ⟨a, c, rfl, h1, h2⟩ := ownsRow_lt2 h.row
  exact ⟨a, c, rfl, h1, by unfold maxLen at h2; omega, Reads.own h.row (by have := h.at'.oct50; omega), fun _ _ _ => trivial⟩
theorem Reads.recap {w : World} {k : IntKind} {a : Option Addr} {n c c' : Nat} {zs : List Int} (h : Reads w k (.slice a n c) zs) : Reads w k (.slice a n c') zs := by
  obtain ⟨a', cap, e, hl, hc⟩ := h
  simp only [Value.slice.injEq] at e
  obtain ⟨rfl, rfl, rfl⟩ := e
  exact ⟨a, c', rfl, hl, hc⟩

theorem concatB2 {wB : World} {S1 S2 : Value} {l1 l2 : List Int} (r1 : Reads wB .u8 S1 l1) (r2 : Reads wB .u8 S2 l2) (hl : (l1 ++ l2).length ≤ 100000000) :
    Calls Try.prog 12 #[.slice (some ⟨wB.heap.size, 0, none⟩) 2 2] (wB.alloc (.cells #[S1, S2] 32)) (OwnBytes (l1 ++ l2) (wB.alloc (.cells #[S1, S2] 32))) := by
  have W1 : Below wB.heap.size wB (wB.alloc (.cells #[S1, S2] 32)) := (Below.refl wB.heap.size wB).alloc (Nat.le_refl _) _
  have q1 := r1.below W1 rfl
  have q2 := r2.below W1 rfl
  have hn : (wB.alloc (.cells #[S1, S2] 32)).heap[wB.heap.size]? = some (.cells #[S1, S2] 32 (0, 0)) := heap_alloc_new _ _
  have e : (([(S1, l1), (S2, l2)] : List (Value × List Int)).map Prod.snd).flatten = l1 ++ l2 := by simp
  have h := concat_any wB.heap.size [(S1, l1), (S2, l2)] (wB.alloc (.cells #[S1, S2] 32)) (fun k hk => by
    match k, hk with
    | 0, _ => exact ⟨by rw [cell_of hn]; rfl, q1⟩
    | 1, _ => exact ⟨by rw [cell_of hn]; rfl, q2⟩
    | k + 2, hk => exact absurd hk (by simp)) (by rw [e]; exact hl) (by simp)
  rw [e] at h
  exact h

theorem heldV_one {b : BookSt} {a x s : Int} (h : b.acc 1 = some (a, x, s)) : heldV b 1 = x := by
  unfold heldV
  simp [h]

/-- What an edit leaves. -/
theorem RopAt.edit {B : Nat} {W W2 : World} {x : RS} {v : Value} {f t : Int} {os : List Int} {e : Ending} (h : RopAt B W x v) (hB : B ≤ W.heap.size) (hp : RsPost x f t os W e W2) :
    ∃ E : Int, e = .returned (.int .i64 E) ∧ Touch x.T W W2 ∧ ∃ x' : RS, x'.I = x.I ∧ (E ≠ 0 → RopAt B W2 x' v) ∧ (E = 0 → ∃ fn tn : Nat, f = fn ∧ t = tn ∧ fn ≤ tn ∧ tn ≤ (octC x.lc).length ∧ x'.At W2 ∧ (∀ k, x'.T k → x.T k ∨ W.heap.size ≤ k) ∧ octC x'.lc = (octC x.lc).take fn ++ os ++ (octC x.lc).drop tn ∧ Reads W2 .u8 v (octC x.lc)) := by
  obtain ⟨rfl, x', hi, ha, hs, hlc, hT, ht⟩ := hp
  refine ⟨_, rfl, ht, x', hi, fun hE => ?_, fun hE => ?_⟩
  · rw [if_neg hE] at hlc
    exact h.step hB ha (by rw [hlc]) hT ht
  · rw [if_pos hE] at hlc
    obtain ⟨h1, h2, h3⟩ := repE_range hE
    have h4 := h.at'.octlen
    refine ⟨f.toNat, t.toNat, by omega, by omega, by omega, by omega, ha, hT, ?_, ?_⟩
    · rw [hlc]
      exact octC_repl x.I.p x.lc f.toNat t.toNat os h.at'.pok.leaf.1 (by omega) (by omega)
    · exact Reads.own (B := 0) (t := 5) (ownsRow_same h.row (fun k hk => ht.block k (h.row.lt k hk).2 (h.ap k hk))) (by have := h.at'.oct50; omega)

section
variable {y : RS} {w : World}
theorem RS.At.l60 (h : y.At w) : y.L.length ≤ 60000 := by have := h.len; omega
theorem copy_all (h : y.At w) : Calls Try.prog 19 #[.pointer (some ⟨y.I.r, 0, none⟩), .int .i64 0, .int .i64 ((octC y.lc).length : Nat)] w (fun e w' => ∃ v, e = .returned (.tuple #[v, .int .i64 0]) ∧ w'.ownsRow w.heap.size 5 1 v (octC y.lc).length ((octC y.lc).map (Value.int .u8)) ∧ Below w.heap.size w w') := by
  refine (copyR_any y.I y.L y.lv y.F 0 ((octC y.lc).length : Nat) w h.rm h.l60 h.szok h.oct).mono ?_
  intro e w' hp
  unfold RCopyPost at hp
  have hbe : betE (totS (y.L.map Lm.sz)).1 0 ((octC y.lc).length : Nat) = 0 := by
    have h1 := h.octlen
    have h2 : (totS (y.L.map Lm.sz)).1 = (octC y.lc).length := h1.symm
    rw [h2]
    exact if_pos ⟨by omega, by omega, by omega, by omega⟩
  rw [if_pos hbe] at hp
  have e1 : ((octC (y.L.map Lm.lc)).drop (0 : Int).toNat).take (((octC y.lc).length : Int).toNat - (0 : Int).toNat) = octC y.lc := by
    show ((octC y.lc).drop 0).take ((octC y.lc).length - 0) = _
    rw [List.drop_zero, Nat.sub_zero, List.take_length]
  rw [e1] at hp
  exact hp
theorem len_rs (h : y.At w) : Calls Try.prog 15 #[.pointer (some ⟨y.I.r, 0, none⟩)] w (fun e w' => e = .returned (.int .i64 ((octC y.lc).length : Nat)) ∧ Below w.heap.size w w') := by
  have := len_any y.I y.L y.lv y.F w h.rm h.l60 h.szok
  rw [show (totS (y.L.map Lm.sz)).1 = (octC y.lc).length from h.octlen.symm] at this
  exact this
theorem room_rs (h : y.At w) : Calls Try.prog 22 #[.pointer (some ⟨y.I.r, 0, none⟩)] w (fun e w' => e = .returned (.int .i64 (roomS y.sz : Nat)) ∧ Below w.heap.size w w') := ropeRoom_any y.I y.L y.lv y.F w h.rm h.l60 h.szok
theorem held_rs (h : y.At w) : Calls Try.prog 21 #[.pointer (some ⟨y.I.bp, 0, none⟩)] w (fun e w' => e = .returned (.int .i64 (roomS y.sz : Nat)) ∧ w' = w) := by
  have := held2_any y.I.bp w y.G y.b 1 h.bk
  rw [heldV_one h.acc] at this
  exact this
theorem where_rs (h : y.At w) (q : Nat) (hq : q < (octC y.lc).length) : Calls Try.prog 23 #[.pointer (some ⟨y.I.r, 0, none⟩), .int .i64 q] w (fun e w' => Below w.heap.size w w' ∧ ∃ k a : Nat, e = .returned (.tuple #[.int .i64 k, .int .i64 a, .int .i64 0]) ∧ WhereIs y.L q k a) := by
  refine (where_any y.I y.L y.lv y.F q w h.rm h.l60 h.szok h.oct).mono ?_
  rintro e w' ⟨hb, hp⟩
  have h1 := h.octlen
  rw [if_pos ⟨by omega, by show (q : Int) < ((totS y.sz).1 : Nat); omega⟩] at hp
  exact ⟨hb, hp⟩
theorem pos_rs (h : y.At w) (q k a : Nat) (hw : WhereIs y.L q k a) : Calls Try.prog 24 #[.pointer (some ⟨y.I.r, 0, none⟩), .int .i64 k, .int .i64 a] w (PosPost q w) := position_any y.I y.L y.lv y.F q k a w h.rm h.l60 h.szok h.oct hw
theorem at_rs (h : y.At w) (q : Nat) (hq : q < (octC y.lc).length) : Calls Try.prog 25 #[.pointer (some ⟨y.I.r, 0, none⟩), .int .i64 q] w (AtPost ((octC y.lc).getD q 0) w) := at_any y.I y.L y.lv y.F q w h.rm h.l60 h.szok h.oct (by have h1 := h.octlen; show q < (totS y.sz).1; omega)
theorem RS.At.eachS (h : y.At w) : ∀ q ∈ y.sz, 1 ≤ q.1 ∧ q.1 ≤ y.I.p.leaf ∧ q.1 ≤ q.2 ∧ q.2 ≤ 100000 := by
  intro q hq
  obtain ⟨x, hx, rfl⟩ := List.mem_map.1 hq
  have h1 := h.each x hx
  have h2 := (h.rm.mem x hx).2.1
  exact ⟨h1.1, h1.2, h2.1, h2.2.1⟩
theorem rooms_take (l : List Sz) (k : Nat) : (totS (l.take k)).2 ≤ (totS l).2 := by
  have h := totS_app (l.take k) (l.drop k)
  rw [List.take_append_drop] at h
  rw [h]
  exact Nat.le_add_right _ _
end

theorem Two.below {w w' : World} {I : RopI} {q : Nat} {L1 L2 : List Lm} {v1 v2 : Value} {F G : Nat → Prop} {b : BookSt} (h : Two w I q L1 L2 v1 v2 F G b) (hb : Below w.heap.size w w') : Two w' I q L1 L2 v1 v2 F G b :=
  ⟨h.m1.below hb, h.m2.below hb, h.ne, h.nd, h.gr.wider (Touch.of_below hb) (fun k hk => Or.inl hk) (fun k hk => Nat.lt_of_lt_of_le (h.gr.fl k hk) hb.size), h.own, h.pok, h.oct, h.each⟩
theorem Two.lens {w : World} {I : RopI} {q : Nat} {L1 L2 : List Lm} {v1 v2 : Value} {F G : Nat → Prop} {b : BookSt} (h : Two w I q L1 L2 v1 v2 F G b) :
    Calls Try.prog 15 #[.pointer (some ⟨I.r, 0, none⟩)] w (fun e w' => e = .returned (.int .i64 ((octC (L1.map Lm.lc)).length : Nat)) ∧ Below w.heap.size w w') ∧
    Calls Try.prog 15 #[.pointer (some ⟨q, 0, none⟩)] w (fun e w' => e = .returned (.int .i64 ((octC (L2.map Lm.lc)).length : Nat)) ∧ Below w.heap.size w w') := by
  have hl := leaves_le (L1 ++ L2) (fun x hx => (h.each x hx).1)
  have hoct := h.oct
  rw [List.length_append] at hl
  have so : ∀ {J : RopI} {L : List Lm} {v : Value}, RopeMem w F J L v → L.length ≤ 50000 → SzOk (L.map Lm.sz) := fun {J L v} hm hl => ⟨by rw [List.length_map]; omega, fun p hp => by
    obtain ⟨x, hx, rfl⟩ := List.mem_map.1 hp
    have ok := (hm.mem x hx).2.1
    exact ⟨by have := ok.1; have := ok.2.1; show x.n ≤ 100000; omega, ok.2.1⟩⟩
  have a1 := len_any I L1 v1 F w h.m1 (by omega) (so h.m1 (by omega))
  have a2 := len_any ⟨q, I.bp, I.o, I.p⟩ L2 v2 F w h.m2 (by omega) (so h.m2 (by omega))
  rw [← map_szC (fun y hy => (h.m1.mem y hy).2.1), ← octC_len] at a1
  rw [← map_szC (fun y hy => (h.m2.mem y hy).2.1), ← octC_len] at a2
  exact ⟨a1, a2⟩

end Go.Proofs.Ytidfidknflcioaa
