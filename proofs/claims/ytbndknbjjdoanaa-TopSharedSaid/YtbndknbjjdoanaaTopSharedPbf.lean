/-
  A block turned: the memory law; append of a row as an equation. No conditions but lengths.
-/
import Derived.Test.YtbndknbjjdoanaaTopSharedPbe
namespace Go.Proofs.Ytbndknbjjdoanaa
open Go.RowKit
set_option linter.unusedVariables false

theorem step_append_knownP {P : Program} {ops : Array Oper} {o : Oper} {a : Act} {w w' : World} {K : Act → World → Prop} {Q : Exit → Act → World → Prop} {E : Prop} (hg : o.guard = none) (s x : Operand) (t : TypeId)
    (hop : o.op = Op.call { callee := Callee.builtin Builtin.append, args := #[s, x], argTypes := #[t, t] }) (v1 v2 v : Value) (hs : a.eval s = v1) (hx : a.eval x = v2) (hr : (Builtin.append_ #[t, t] o.type #[v1, v2]).run P w = .ok v w') (h : K (a.put o.dst v) w') :
    if Region.wanted o (yielded ops a.tmps) = true then Oper.wp P o a w K Q else E := by
  have hw : Region.wanted o (yielded ops a.tmps) = true := by simp [Region.wanted, hg]
  rw [if_pos hw]
  unfold Oper.wp execOp
  simp only [hop, resolve, invoke, builtin, Sem.run_bind, Sem.run_pure, Result.andThen_ok, List.map_toArray, List.map_cons, List.map_nil, hs, hx, hr]
  exact h
theorem run_append_seg {P : Program} (w : World) (base : Nat) (t ty e : TypeId) (i : TypeInfo) (z : Value) (size bytes : Nat) (ht : P.underlying t = some (.slice e)) (hi : P.info? e = some i) (hz : i.zero = some z)
    (hsize : i.size = size) (hby : i.bytes = bytes) (hzs : z.cells.size = size) (hsz : 0 < size) (v : Value) (n : Nat) (xs : List Value) (hown : w.ownsRow base e size v n xs)
    (sv : Value) (m : Nat) (zs : List Value) (hr : Seg w size sv m zs) (h63 : n + m ≤ maxLen) (hbytes : (n + m) * bytes ≤ 140737488355328) (hbase : base ≤ w.heap.size) :
    ∃ v' w', (Builtin.append_ #[t, t] ty #[v, sv]).run P w = .ok v' w' ∧ w'.ownsRow base e size v' (n + m) (xs ++ zs) ∧ w.grownBy w' v.ownBlock := by
  obtain ⟨hl, h1, sa, cap, rfl, hle, hcap, hc⟩ := hr
  cases sa with
  | none =>
    have hz : zs = [] := by
      rcases List.eq_nil_or_concat zs with h' | ⟨l, y, h'⟩
      · exact h'
      · obtain ⟨b, o, h1, _⟩ := hc l.length y (by rw [h']; simp)
        cases h1
    subst hz
    have hm : m = 0 := by
      rcases Nat.eq_zero_or_pos m with e | e
      · exact e
      · have := Nat.mul_pos e hsz
        simp at hl
        omega
    subst hm
    obtain ⟨a1, c1, rfl⟩ := wrow_sh hown
    have h1' : n ≤ c1 := by
      rcases hown.2 with ⟨hv, h0⟩ | ⟨g, cap', cur, hv, _, _, hn, _⟩
      · simp only [Value.slice.injEq] at hv; omega
      · simp only [Value.slice.injEq] at hv; omega
    have hrun := run_append_nothing (P := P) w t t ty e i ht hi a1 n c1 h1' (.slice none 0 cap) (Src.ofNil w ht cap)
    exact ⟨_, _, hrun, by simpa using hown, World.grownBy.refl _ _⟩
  | some ad =>
    obtain ⟨v', w', h2, h3, h4, _⟩ := run_append_own (P := P) w base t ty e i z size bytes ht hi hz hsize hby hzs hsz v n xs hown ad m cap zs hl (fun j u hu => by
      obtain ⟨b, o, e', hcell⟩ := hc j u hu
      cases e'
      have e1 : (⟨b, o, none⟩ : Addr).add j = ⟨b, o + j, none⟩ := by unfold Addr.add; split <;> simp_all
      rw [e1]
      exact hcell) h1 h63 hbytes hbase
    exact ⟨v', w', h2, h3, h4⟩

theorem nodup_inj {α β : Type} {f : α → β} : ∀ {l : List α}, (l.map f).Nodup → ∀ {p q : α}, p ∈ l → q ∈ l → f p = f q → p = q
  | [], _, p, q, hp, _, _ => by simp at hp
  | x :: l, hn, p, q, hp, hq, e => by
    rw [List.map_cons, List.nodup_cons] at hn
    rcases List.mem_cons.1 hp with e1 | h1
    · rcases List.mem_cons.1 hq with e2 | h2
      · rw [e1, e2]
      · exact (hn.1 (List.mem_map.2 ⟨q, h2, by rw [← e, e1]⟩)).elim
    · rcases List.mem_cons.1 hq with e2 | h2
      · exact (hn.1 (List.mem_map.2 ⟨p, h1, by rw [e, e2]⟩)).elim
      · exact nodup_inj hn.2 h1 h2 e

def putB (bl : List (Nat × Bk)) (b : Nat) (y : Bk) : List (Nat × Bk) := bl.map fun p => if p.1 = b then (b, y) else p
/-- A block turned. -/
def PoolSt.setB (P : PoolSt) (b : Nat) (y : Bk) : PoolSt := { P with bl := putB P.bl b y }
theorem putB_keys (bl : List (Nat × Bk)) (b : Nat) (y : Bk) : (putB bl b y).map Prod.fst = bl.map Prod.fst := by
  unfold putB
  rw [List.map_map]
  refine List.map_congr_left (fun p _ => ?_)
  simp only [Function.comp]
  split
  · next h => exact h.symm
  · rfl
theorem putB_len (bl : List (Nat × Bk)) (b : Nat) (y : Bk) : (putB bl b y).length = bl.length := by unfold putB; rw [List.length_map]
theorem putB_look {bl : List (Nat × Bk)} {b : Nat} {y : Bk} : ∀ {k : Int}, lookN (putB bl b y) k = if (b : Int) = k then (lookN bl k).map (fun _ => y) else lookN bl k := by
  induction bl with
  | nil => intro k; simp [putB, lookN]
  | cons p bl ih =>
    intro k
    have e : putB (p :: bl) b y = (if p.1 = b then (b, y) else p) :: putB bl b y := rfl
    rw [e]
    have ih := @ih k
    unfold lookN at ih ⊢
    rw [List.find?_cons, List.find?_cons]
    by_cases hp : p.1 = b
    · rw [if_pos hp]
      by_cases hk : (b : Int) = k
      · have h1 : (p.1 : Int) = k := by omega
        simp [hk, h1]
      · have h1 : ¬ (p.1 : Int) = k := by omega
        simp only [hk, h1, decide_false, if_false]
        rw [ih, if_neg hk]
    · rw [if_neg hp]
      by_cases hk : (p.1 : Int) = k
      · have h1 : ¬ (b : Int) = k := by omega
        simp [hk, h1]
      · simp only [hk, decide_false]
        exact ih
theorem putB_mem {bl : List (Nat × Bk)} {b : Nat} {y : Bk} {p : Nat × Bk} (h : p ∈ putB bl b y) : p = (b, y) ∨ (p ∈ bl ∧ p.1 ≠ b) := by
  obtain ⟨q, hq, rfl⟩ := List.mem_map.1 h
  split
  · exact Or.inl rfl
  · next hne => exact Or.inr ⟨hq, hne⟩
theorem putB_map {β : Type} (f : Bk → β) {bl : List (Nat × Bk)} {b : Nat} {y y' : Bk} (hn : (bl.map Prod.fst).Nodup) (hl : lookN bl (b : Int) = some y) (hf : f y' = f y) : (putB bl b y').map (fun p => f p.2) = bl.map (fun p => f p.2) := by
  unfold putB
  rw [List.map_map]
  refine List.map_congr_left (fun p hp => ?_)
  simp only [Function.comp]
  split
  · next h =>
    have h1 := lookN_of_mem hn (show (p.1, p.2) ∈ bl from hp)
    rw [h, hl] at h1
    rw [Option.some.inj h1] at hf
    exact hf
  · rfl
/-- The octets of a part, where a block is turned. -/
theorem setB_octPt {P : PoolSt} {b : Nat} {y y' : Bk} (hl : lookN P.bl (b : Int) = some y) {x : Pt} (h : x.b = b → (y'.cs.take x.t).drop x.f = (y.cs.take x.t).drop x.f) : octPt (P.setB b y').oct x = octPt P.oct x := by
  unfold octPt
  by_cases e : x.b = b
  · have h1 : lookN (P.setB b y').bl (x.b : Int) = some y' := by
      show lookN (putB P.bl b y') _ = _
      rw [e, putB_look, if_pos rfl, hl]
      rfl
    rw [oct_of h1, oct_of (by rw [e]; exact hl), h e]
  · have h1 : (P.setB b y').oct x.b = P.oct x.b := by
      unfold PoolSt.oct
      show (match lookN (putB P.bl b y') (x.b : Int) with | some x => x.cs | none => []) = _
      rw [putB_look, if_neg (by omega)]
      rfl
    rw [h1]

theorem PoolMem.blk {w w3 : World} {F : Nat → Prop} {h bp : Nat} {P : PoolSt} {mb ms N1 N2 : Nat} {D1 D2 : DataW Unit} (m : PoolMem w F h bp P mb ms N1 N2 D1 D2) {b : Nat} {y y' : Bk} (hl : lookN P.bl (b : Int) = some y) (ha : y'.a = y.a) (hg : y'.g = y.g) (hlen : y'.cs.length = P.size) (hby : bytes y'.cs) (hu : y.used ≤ y'.used ∧ y'.used ≤ P.size)
    (h1 : w3.heap[y.a]? = some (.cells #[.slice (some ⟨y.g, 0, none⟩) P.size P.size, .int .i64 (y'.used : Int), .bool y'.pin] 83 (0, 0))) (h2 : byteRow w3 y.g y'.cs) (keep : ∀ k, k < w.heap.size → k ≠ y.a → k ≠ y.g → w3.heap[k]? = w.heap[k]?) : PoolMem w3 F h bp (P.setB b y') mb ms N1 N2 D1 D2 := by
  obtain ⟨n, hn, hmem⟩ := lookN_mem hl
  have en : n = b := by omega
  subst en
  obtain ⟨y1, y2, y3, y4, y5, y6, y7⟩ := m.bk _ hmem
  simp only at y1 y2 y3 y4 y5 y6 y7
  have mapne : ∀ q N D (R : Value → Option (DataW Unit × List MemPlace)), w.ownsMap Try.prog 3 R q N D → ∀ (k : Nat) (cs : Array Value) (t : TypeId), w.heap[k]? = some (Obj.cells cs t (0, 0)) → q ≠ k := fun q N D R hm k cs t hk e => by
    obtain ⟨es, clock, hb, _⟩ := hm
    rw [e, hk] at hb
    simp at hb
  have typ : ∀ (k : Nat) (cs : Array Value) (t : TypeId), w.heap[k]? = some (Obj.cells cs t (0, 0)) → t ≠ 83 → t ≠ 5 → w3.heap[k]? = some (Obj.cells cs t (0, 0)) := fun k cs t hk t1 t2 => by
    refine (keep k (lt_of hk) (fun e => ?_) (fun e => ?_)).trans hk
    · rw [e, y1] at hk
      simp only [Option.some.injEq, Obj.cells.injEq] at hk
      exact t1 hk.2.1.symm
    · have y2' : w.heap[y.g]? = some (Obj.cells _ 5 (0, 0)) := y2
      rw [e, y2'] at hk
      simp only [Option.some.injEq, Obj.cells.injEq] at hk
      exact t2 hk.2.1.symm
  have memb : ∀ p ∈ (P.setB n y').bl, p = (n, y') ∨ (p ∈ P.bl ∧ p.1 ≠ n) := fun p hp => putB_mem hp
  refine ⟨typ h _ _ m.self (by decide) (by decide), m.fh, ownsMap_same m.m1 (keep mb m.m1.lt (mapne _ _ _ _ m.m1 _ _ _ y1) (mapne _ _ _ _ m.m1 _ _ _ y2)), m.f1, ownsMap_same m.m2 (keep ms m.m2.lt (mapne _ _ _ _ m.m2 _ _ _ y1) (mapne _ _ _ _ m.m2 _ _ _ y2)), m.f2, fun k z => ?_, ?_, m.l2, m.z2, fun p hp => ?_, ?_, ?_, ?_, fun p hp => ?_, m.ks, m.ns, fun p hp => ?_, fun p hp x hx => ?_, m.sz, m.mne, ?_⟩
  · show _ = ptrZ ((lookN (putB P.bl n y') k).map Bk.a) z
    rw [putB_look, m.l1]
    split
    · next e =>
      subst e
      rw [hl]
      simp [ha]
    · rfl
  · rw [m.z1]
    exact (putB_len _ _ _).symm
  · rcases memb p hp with rfl | ⟨hp, hne⟩
    · show w3.heap[y'.a]? = _ ∧ byteRow w3 y'.g y'.cs ∧ _
      rw [ha, hg]
      exact ⟨h1, h2, hlen, hby, y5, y6, hu.2⟩
    · obtain ⟨a1, a2, a3, a4, a5, a6, a7⟩ := m.bk p hp
      have na : p.2.a ≠ y.a := fun e => hne (by rw [nodup_inj (f := fun p : Nat × Bk => p.2.a) m.ia hp hmem e])
      have ng : p.2.g ≠ y.g := fun e => hne (by rw [nodup_inj (f := fun p : Nat × Bk => p.2.g) m.ig hp hmem e])
      refine ⟨(keep _ (lt_of a1) na (fun e => ?_)).trans a1, (keep _ (lt_of a2) (fun e => ?_) ng).trans a2, a3, a4, a5, a6, a7⟩
      · have y2' : w.heap[y.g]? = some (Obj.cells _ 5 (0, 0)) := y2
        rw [e, y2'] at a1
        simp at a1
      · have a2' : w.heap[p.2.g]? = some (Obj.cells _ 5 (0, 0)) := a2
        rw [e, y1] at a2'
        simp at a2'
  · show ((putB P.bl n y').map fun p => p.2.a).Nodup
    rw [putB_map (fun y => y.a) m.kb hl ha]
    exact m.ia
  · show ((putB P.bl n y').map fun p => p.2.g).Nodup
    rw [putB_map (fun y => y.g) m.kb hl hg]
    exact m.ig
  · show ((putB P.bl n y').map Prod.fst).Nodup
    rw [putB_keys]
    exact m.kb
  · rcases memb p hp with rfl | ⟨hp, _⟩
    · exact m.nb (n, y) hmem
    · exact m.nb p hp
  · obtain ⟨a1, a2⟩ := m.st p hp
    refine ⟨ownsRow_same a1 (fun k hk => ?_), a2⟩
    obtain ⟨cur, hc⟩ := row_block a1 hk
    rw [typ k _ _ hc (by decide) (by decide), hc]
  · obtain ⟨z, hz, z1, z2⟩ := m.pt p hp x hx
    show ∃ z, lookN (putB P.bl n y') (x.b : Int) = some z ∧ _
    rw [putB_look]
    by_cases e : (n : Int) = (x.b : Int)
    · rw [if_pos e, hz]
      rw [← e, hl] at hz
      rw [← Option.some.inj hz] at z2
      exact ⟨y', rfl, z1, Nat.le_trans z2 hu.1⟩
    · rw [if_neg e]
      exact ⟨z, hz, z1, z2⟩
  · obtain ⟨a1, a2, a3, a4, a5⟩ := m.few
    exact ⟨a1, by rw [show (P.setB n y').bl.length = P.bl.length from putB_len _ _ _]; exact a2, a3, a4, a5⟩

end Go.Proofs.Ytbndknbjjdoanaa
