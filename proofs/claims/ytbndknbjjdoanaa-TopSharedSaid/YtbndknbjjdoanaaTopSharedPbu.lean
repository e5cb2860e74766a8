/-
  What a look leaves, and what the strings hold after its first octet is written. No conditions but bounds.
-/
import Derived.Test.YtbndknbjjdoanaaTopSharedPbt
namespace Go.Proofs.Ytbndknbjjdoanaa
open Go.RowKit
set_option linter.unusedVariables false

/-- An octet of a block is written. -/
theorem SP.poke {w : World} {Z : Nat → Prop} {h bp : Nat} {P : PoolSt} {n : Nat} (s : SP w Z h bp P n) {b : Nat} {y : Bk} (hy : lookN P.bl (b : Int) = some y) {j : Nat} (hj : j < P.size) {c : Int} (hc : 0 ≤ c ∧ c ≤ 255) :
    SP (w.setCell ⟨y.g, j, none⟩ (.int .u8 c)) Z h bp (P.setB b ⟨y.a, y.g, splice y.cs j [c], y.used, y.pin⟩) n ∧ Touch Z w (w.setCell ⟨y.g, j, none⟩ (.int .u8 c)) ∧ Z y.g ∧ w.frozen? ⟨y.g, j, none⟩ = false := by
  obtain ⟨mb, ms, D1, D2, F, G, bk, p, hz⟩ := s
  obtain ⟨y1, y2, y3, y4, y5, y6, y7, y8, y9⟩ := p.pm.blkOf hy
  have yag : y.a ≠ y.g := fun e => by
    have h2 : w.heap[y.g]? = some (Obj.cells _ 5 (0, 0)) := y2
    rw [e, h2] at y1
    simp at y1
  have T : Touch F w (w.setCell ⟨y.g, j, none⟩ (.int .u8 c)) := (Touch.refl F w).setCell (p := ⟨y.g, j, none⟩) (Or.inl y6) _
  have hset : splice y.cs j [c] = y.cs.set j c := by
    rw [List.set_eq_take_append_cons_drop, if_pos (by omega)]
    simp [splice]
  have h3 : byteRow (w.setCell ⟨y.g, j, none⟩ (.int .u8 c)) y.g (splice y.cs j [c]) := by
    rw [hset]
    exact y2.set j c
  have hby : bytes (splice y.cs j [c]) := bytes_spliceF y4 (fun z hz => by simp at hz; subst hz; exact hc)
  have pm := p.pm.blk (w3 := w.setCell ⟨y.g, j, none⟩ (.int .u8 c)) (y' := ⟨y.a, y.g, splice y.cs j [c], y.used, y.pin⟩) hy rfl rfl (by show (splice _ _ _).length = _; rw [splice_len _ _ _ (by simp; omega), y3]) hby ⟨Nat.le_refl _, y7⟩ ((Below.heap_setCell _ _ _ _ yag).trans y1) h3 (fun k hk h1 h2 => Below.heap_setCell _ _ _ _ h2)
  have q := (p.turn' pm p.dis (fun k hk => Nat.lt_of_lt_of_le (p.fl k hk) T.size) T rfl).tight
  exact ⟨⟨mb, ms, D1, D2, F, G, bk, q, hz⟩, T.mono (fun k hk => (hz k).1 (Or.inl hk)), (hz _).1 (Or.inl y6), free_of y2 j⟩
/-- What a block shows. -/
theorem SP.blkReads {w : World} {Z : Nat → Prop} {h bp : Nat} {P : PoolSt} {n : Nat} (s : SP w Z h bp P n) {b : Nat} {y : Bk} (hy : lookN P.bl (b : Int) = some y) {f m : Nat} (hf : f + m ≤ P.size) : Reads w .u8 (.slice (some ⟨y.g, f, none⟩) m m) ((y.cs.take (f + m)).drop f) ∧ y.cs.length = P.size ∧ bytes y.cs ∧ P.size ≤ 4096 ∧ y.used ≤ P.size := by
  obtain ⟨mb, ms, D1, D2, F, G, bk, p, hz⟩ := s
  obtain ⟨y1, y2, y3, y4, y5, y6, y7, y8, y9⟩ := p.pm.blkOf hy
  have hl : ((y.cs.take (f + m)).drop f).length = m := by rw [List.length_drop, List.length_take, y3]; omega
  have h4 := p.pm.sz.2
  refine ⟨⟨some ⟨y.g, f, none⟩, m, by rw [hl], by omega, fun hne => ⟨y.g, f, rfl, fun j hj => ?_⟩⟩, y3, y4, h4, y7⟩
  rw [hl] at hj
  rw [y2.cell (f + j) (by omega), List.getD_eq_getElem?_getD, List.getD_eq_getElem?_getD, List.getElem?_drop, List.getElem?_take_of_lt (by omega)]
theorem sub_part {M : Nat → List Int} {l : List Pt} {k : Nat} {z : Pt} (hok : ∀ x ∈ l, x.ok M) (hz : l[k]? = some z) {f n : Nat} (hf : f + n ≤ z.n) : ((octP M l).take (lenP (l.take k) + f + n)).drop (lenP (l.take k) + f) = ((octPt M z).take (f + n)).drop f := by
  have e2 : l = l.take k ++ z :: l.drop (k + 1) := by rw [← drop_at hz, List.take_append_drop]
  have hl1 : (octP M (l.take k)).length = lenP (l.take k) := octP_len (fun x hx => hok x (List.mem_of_mem_take hx))
  have hl2 : (octPt M z).length = z.n := octPt_len (hok z (List.mem_of_getElem? hz))
  have e3 : octP M l = octP M (l.take k) ++ (octPt M z ++ octP M (l.drop (k + 1))) := by
    conv => lhs; rw [e2, octP_app, octP_cons]
  rw [e3, ← hl1, Nat.add_assoc, List.take_length_add_append, ← List.drop_drop, List.drop_left, List.take_append_of_le_length (by omega)]
theorem sub_blk {cs : List Int} {zf zt f n : Nat} (h : zf + f + n ≤ zt) : ((((cs.take zt).drop zf).take (f + n)).drop f) = (cs.take (zf + f + n)).drop (zf + f) := by
  rw [List.take_drop, List.drop_drop, List.take_take, Nat.min_eq_left (by omega), Nat.add_assoc]

/-- After a look: the slice that it gives, and what is so when its first octet is written. -/
structure Looked (h bp : Nat) (P' : PoolSt) (Z' : Nat → Prop) (s : Int) (xs : List Int) (f n g off : Nat) (w' : World) : Prop where
  pos : 0 < n
  fit : f + n ≤ xs.length
  few : n ≤ 4096
  reads : Reads w' .u8 (.slice (some ⟨g, off, none⟩) n n) ((xs.take (f + n)).drop f)
  zg : Z' g
  free : w'.frozen? ⟨g, off, none⟩ = false
  poke : ∀ W, Below w'.heap.size w' W → ∀ c : Int, 0 ≤ c ∧ c ≤ 255 → Touch Z' W (W.setCell ⟨g, off, none⟩ (.int .u8 c)) ∧ ∃ P2, SP (W.setCell ⟨g, off, none⟩ (.int .u8 c)) Z' h bp P2 P2.bl.length ∧ P2.lastB = P'.lastB ∧ P2.lastS = P'.lastS ∧ P2.st.map Prod.fst = P'.st.map Prod.fst ∧ ∀ x, P2.con x = if s = x then some (splice xs f [c]) else P'.con x
theorem setB_bl (P : PoolSt) (b : Nat) (y : Bk) : (P.setB b y).bl.length = P.bl.length := by
  show (putB P.bl b y).length = _
  unfold putB
  rw [List.length_map]
theorem octP_take_len {M : Nat → List Int} {l : List Pt} (hok : ∀ x ∈ l, x.ok M) : (octP M l).length = lenP l := octP_len hok
theorem LkPost.out {w : World} {Z : Nat → Prop} {h bp : Nat} {P : PoolSt} {s f t : Int} {e : Ending} {w' : World} (sp0 : SP w Z h bp P P.bl.length) (hp : LkPost h bp P s f t Z w e w') :
    (∃ E : Int, e = .returned (.tuple #[.slice none 0 0, .int .i64 E]) ∧ Kept h bp P Z w w') ∨
    (∃ xs g off n, e = .returned (.tuple #[.slice (some ⟨g, off, none⟩) n n, .int .i64 0]) ∧ P.con s = some xs ∧ 0 ≤ f ∧ ∃ P' Z', Went h bp P Z w P' Z' w' ∧ P'.st.map Prod.fst = P.st.map Prod.fst ∧ (∀ x, P'.con x = P.con x) ∧ Looked h bp P' Z' s xs f.toNat n g off w') := by
  have k := sp0.ok
  unfold LkPost at hp
  cases hl : lookN P.st s with
  | none =>
    rw [hl] at hp
    exact Or.inl ⟨13, hp.1, hp.2.kept⟩
  | some q =>
    rw [hl] at hp
    simp only at hp
    obtain ⟨k1, k2, k3, k4, hs⟩ := k.str hl
    by_cases hb : btE (lenP q.2) f t = 0
    · rw [if_pos hb] at hp
      have hb' : 0 ≤ f ∧ f ≤ t ∧ t ≤ (lenP q.2 : Nat) := by
        unfold btE at hb
        split at hb
        · omega
        · cases hb
      by_cases hft : f = t
      · rw [if_pos hft] at hp
        exact Or.inl ⟨0, hp.1, hp.2.kept⟩
      · rw [if_neg hft] at hp
        obtain ⟨kk, z, y, hz, l1, l2, hy, hways⟩ := hp
        obtain ⟨sn, rfl⟩ : ∃ sn : Nat, s = sn := ⟨s.toNat, hs⟩
        obtain ⟨fn, rfl⟩ : ∃ fn : Nat, f = fn := ⟨f.toNat, by omega⟩
        obtain ⟨tn, rfl⟩ : ∃ tn : Nat, t = tn := ⟨t.toNat, by omega⟩
        simp only [Int.toNat_natCast] at l1 l2 hways ⊢
        have hzok := k2 z (List.mem_of_getElem? hz)
        obtain ⟨y0, hy0, zf, zt⟩ := k1 z (List.mem_of_getElem? hz)
        have hey : y0 = y := Option.some.inj (hy0.symm.trans hy)
        rw [hey] at zt
        have hzn : z.n = z.t - z.f := rfl
        obtain ⟨_, b3, b4, b5, b6⟩ := sp0.blkReads hy (f := 0) (m := 0) (by omega)
        have hlp := lenP_part hz
        obtain ⟨lk, hlk⟩ : ∃ m, lenP (q.2.take kk) = m := ⟨_, rfl⟩
        have sub := fun f' n' (hn : f' + n' ≤ z.n) => sub_part k2 hz hn
        rw [hlk] at l1 l2 hlp hways sub
        obtain ⟨f', hf'⟩ : ∃ m, fn - lk = m := ⟨_, rfl⟩
        obtain ⟨n, hn⟩ : ∃ m, (lookPt z lk fn tn).n = m := ⟨_, rfl⟩
        have hn' : min (z.f + (tn - lk)) z.t - (z.f + (fn - lk)) = n := hn
        have hF : (lookPt z lk fn tn).f = z.f + f' := by show z.f + (fn - lk) = _; omega
        have hT : (lookPt z lk fn tn).t = z.f + f' + n := by show min (z.f + (tn - lk)) z.t = _; omega
        have hfe : lk + f' = fn := by omega
        have sub1 := sub f' n (by omega)
        rw [hfe] at sub1
        rw [hn, hF] at hways
        rcases hways with ⟨hno, rfl, Z', sp, nx⟩ | ⟨_, h0, rfl, Z', sp, nx⟩ | ⟨_, h0, a, g, o, rfl, Z', sp, nx⟩
        · refine Or.inr ⟨octP P.oct q.2, y.g, z.f + f', n, rfl, k4, by omega, P.setB z.b ⟨y.a, y.g, y.cs, y.used, true⟩, Z', ⟨by rw [setB_bl]; exact sp, nx, by show P.lastB ≤ _; omega, by show P.lastS ≤ _; omega⟩, rfl, fun x => con_pin (y' := ⟨y.a, y.g, y.cs, y.used, true⟩) hy rfl x, ?_⟩
          have hlook : lookN (P.setB z.b ⟨y.a, y.g, y.cs, y.used, true⟩).bl (z.b : Int) = some ⟨y.a, y.g, y.cs, y.used, true⟩ := by rw [setB_lookQ hy, if_pos rfl]
          have hpk := sp.poke hlook (j := z.f + f') (by show _ < P.size; omega) (c := 0) (by omega)
          refine ⟨by omega, by rw [k3]; omega, by omega, ?_, hpk.2.2.1, hpk.2.2.2, fun W hW c hc => ?_⟩
          · have h1 := (sp.blkReads hlook (f := z.f + f') (m := n) (by show _ ≤ P.size; omega)).1
            rw [sub1, octPt_of hy, sub_blk (by omega)]
            exact h1
          · obtain ⟨p1, p2, _, _⟩ := (sp.same hW).poke hlook (j := z.f + f') (by show _ < P.size; omega) hc
            refine ⟨p2, (P.setB z.b ⟨y.a, y.g, y.cs, y.used, true⟩).setB z.b ⟨y.a, y.g, splice y.cs (z.f + f') [c], y.used, true⟩, by rw [setB_bl, setB_bl]; exact p1, rfl, rfl, rfl, fun x => ?_⟩
            have h2 := con_look_own k (o := q.1) (l := q.2) hl hz hy (f := fn) (t := tn) (by rw [hlk]; exact l1) (by rw [hlk]; exact l2) (by omega) (by rw [hlk]; exact hno) (by omega) c x
            rw [hlk, hF] at h2
            rw [con_pin (y' := ⟨y.a, y.g, y.cs, y.used, true⟩) hy rfl x]
            exact h2
        · exact Or.inl ⟨_, rfl, Kept.same sp nx⟩
        · obtain ⟨ln1, ln2⟩ := look_new k (o0 := q.1) (l := q.2) hl hz a g o
          obtain ⟨Q, hQ⟩ : ∃ Q, ((P.grow (newBk P.size a g (octPt P.oct z))).setS sn o (q.2.set kk ⟨P.lastB + 1, 0, z.n⟩)).swept = Q := ⟨_, rfl⟩
          have hQst : Q.st = putS P.st sn o (q.2.set kk ⟨P.lastB + 1, 0, z.n⟩) := by rw [← hQ]; rfl
          have hQlb : Q.lastB = P.lastB + 1 := by rw [← hQ]; rfl
          have hQls : Q.lastS = P.lastS := by rw [← hQ]; rfl
          have hQsz : Q.size = P.size := by rw [← hQ]; rfl
          rw [hQ] at ln1 ln2 sp
          have hcs : (newBk P.size a g (octPt P.oct z)).cs = octPt P.oct z ++ zeros (P.size - (octPt P.oct z).length) := rfl
          have hol := octPt_len hzok
          have hlook : lookN (Q.setB (P.lastB + 1) ⟨a, g, (newBk P.size a g (octPt P.oct z)).cs, z.n, true⟩).bl ((P.lastB + 1 : Nat) : Int) = some ⟨a, g, (newBk P.size a g (octPt P.oct z)).cs, z.n, true⟩ := by rw [setB_lookQ ln1, if_pos rfl]
          have hQk : ∀ x, (Q.setB (P.lastB + 1) ⟨a, g, (newBk P.size a g (octPt P.oct z)).cs, z.n, true⟩).con x = P.con x := fun x => (con_pin (y' := ⟨a, g, (newBk P.size a g (octPt P.oct z)).cs, z.n, true⟩) ln1 rfl x).trans (ln2 x)
          have hQs : lookN Q.st (sn : Int) = some (o, q.2.set kk ⟨P.lastB + 1, 0, z.n⟩) := by
            rw [hQst, putS_look, if_pos rfl, hl]
            rfl
          have hoff : z.f + f' - z.f = f' := by omega
          rw [hoff]
          refine Or.inr ⟨octP P.oct q.2, g, f', n, rfl, k4, by omega, _, Z', ⟨by rw [setB_bl]; exact sp, nx, by show Q.lastB ≤ _; omega, by show Q.lastS ≤ _; omega⟩, by show Q.st.map Prod.fst = _; rw [hQst, putS_keys], hQk, ?_⟩
          have hpk := sp.poke hlook (j := f') (by show _ < Q.size; omega) (c := 0) (by omega)
          have hsz : (Q.setB (P.lastB + 1) ⟨a, g, (newBk P.size a g (octPt P.oct z)).cs, z.n, true⟩).size = P.size := hQsz
          refine ⟨by omega, by rw [k3]; omega, by omega, ?_, hpk.2.2.1, hpk.2.2.2, fun W hW c hc => ?_⟩
          · have h1 := (sp.blkReads hlook (f := f') (m := n) (by rw [hsz]; omega)).1
            rw [sub1]
            simp only [hcs] at h1
            rw [List.take_append_of_le_length (by omega)] at h1
            exact h1
          · obtain ⟨p1, p2, _, _⟩ := (sp.same hW).poke hlook (j := f') (by rw [hsz]; omega) hc
            refine ⟨p2, (Q.setB (P.lastB + 1) ⟨a, g, (newBk P.size a g (octPt P.oct z)).cs, z.n, true⟩).setB (P.lastB + 1) ⟨a, g, splice (newBk P.size a g (octPt P.oct z)).cs f' [c], z.n, true⟩, by rw [setB_bl, setB_bl]; exact p1, rfl, rfl, rfl, fun x => ?_⟩
            have kQ := sp.ok
            have hpart : (q.2.set kk ⟨P.lastB + 1, 0, z.n⟩)[kk]? = some (⟨P.lastB + 1, 0, z.n⟩ : Pt) := by
              rw [List.getElem?_set, if_pos rfl, if_pos (List.getElem?_eq_some_iff.1 hz).1]
            have hmem : (sn, o, q.2.set kk ⟨P.lastB + 1, 0, z.n⟩) ∈ Q.st := by
              obtain ⟨m, hm, h1⟩ := lookN_mem hQs
              have : m = sn := by omega
              rw [this] at h1
              exact h1
            have hzz : z.n ≤ P.size := by omega
            have hcsl : (newBk P.size a g (octPt P.oct z)).cs.length = P.size := by
              rw [hcs, List.length_append, hol]
              simp [zeros]
              omega
            have h2 := con_write (P := Q.setB (P.lastB + 1) ⟨a, g, (newBk P.size a g (octPt P.oct z)).cs, z.n, true⟩) (sn := sn) (o := o) (l := q.2.set kk ⟨P.lastB + 1, 0, z.n⟩) hQs (kQ.ok _ hmem) hpart hlook (y' := ⟨a, g, splice (newBk P.size a g (octPt P.oct z)).cs f' [c], z.n, true⟩) ⟨Nat.zero_le _, (by show z.n ≤ (newBk P.size a g (octPt P.oct z)).cs.length; rw [hcsl]; exact hzz)⟩ (c := f') (xs := [c]) (by simp) (by show f' + 1 ≤ z.n - 0; omega) (by show splice _ _ _ = splice _ (0 + f') _; rw [Nat.zero_add]) (fun r hr i u hu hne hb => by
              have hr' : r ∈ putS P.st sn o (q.2.set kk ⟨P.lastB + 1, 0, z.n⟩) := by rw [← hQst]; exact hr
              exact absurd (look_alone k (o0 := q.1) (l := q.2) hl (k := kk) ⟨P.lastB + 1, 0, z.n⟩ (by show _ < P.lastB + 1; omega) o r hr' i u hu hb) hne) x
            rw [h2]
            have e1 : octP (Q.setB (P.lastB + 1) ⟨a, g, (newBk P.size a g (octPt P.oct z)).cs, z.n, true⟩).oct (q.2.set kk ⟨P.lastB + 1, 0, z.n⟩) = octP P.oct q.2 := by
              have h3 := hQk (sn : Int)
              rw [con_of (P := Q.setB (P.lastB + 1) ⟨a, g, (newBk P.size a g (octPt P.oct z)).cs, z.n, true⟩) hQs, k4] at h3
              exact Option.some.inj h3
            have e2 : (q.2.set kk (⟨P.lastB + 1, 0, z.n⟩ : Pt)).take kk = q.2.take kk := by
              rw [List.take_set_of_le (by omega)]
            rw [e1, e2, hlk, hfe]
    · rw [if_neg hb] at hp
      exact Or.inl ⟨2, hp.1, hp.2.kept⟩

end Go.Proofs.Ytbndknbjjdoanaa
