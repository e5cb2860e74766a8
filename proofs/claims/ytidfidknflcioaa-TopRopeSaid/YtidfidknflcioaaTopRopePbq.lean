/-
  ask as it is used, and Level of a rope. Conditions: numbers in their bounds.
-/
import Derived.Test.YtidfidknflcioaaTopRopePbp
namespace Go.Proofs.Ytidfidknflcioaa
open Go.RowKit
set_option linter.unusedVariables false

/-- The book has granted another room. -/
structure Grant (w : World) (I : RopI) (F G : Nat → Prop) (b : BookSt) (next : Nat) : Prop where
  bk : BookAt w G I.bp b 1
  dis : ∀ k, F k → ¬ G k
  fl : ∀ k, F k → k < w.heap.size
  gl : ∀ k, G k → k < w.heap.size
  acc : b.acc 1 = some (10000000, ((next : Nat) : Int), 0)
  bud : b.budget = 10000000
  tot : b.total = ((next : Nat) : Int)
  ent : b.entries.length ≤ 10000
  room : next ≤ 10000000
theorem Grant.done {w w' : World} {I : RopI} {F F' G : Nat → Prop} {b : BookSt} {next : Nat} {L' : List Lm} {lv' : Value} (g : Grant w I F G b next) (hm : RopeMem w' F' I L' lv') (ht : Touch F w w') (hF : ∀ k, F' k → F k ∨ w.heap.size ≤ k) (hF' : ∀ k, F' k → k < w'.heap.size)
    (own : I.o = 1) (pok : POk I.p) (hr : roomS (L'.map Lm.sz) = next) (oct : (totS (L'.map Lm.sz)).1 ≤ 50000) (each : ∀ x ∈ L', 1 ≤ x.n ∧ x.n ≤ I.p.leaf) : (⟨I, L', lv', b, F', G⟩ : RS).At w' :=
  ⟨hm, g.bk.same (fun k hk hl => ht.block k hl (fun hf => g.dis k hf hk)), fun k hk hg => (hF k hk).elim (fun h => g.dis k h hg) (fun h => by have := g.gl k hg; omega), hF', fun k hk => Nat.lt_of_lt_of_le (g.gl k hk) ht.size, own, pok, by rw [hr]; exact g.acc, g.bud, by rw [hr]; exact g.tot, g.ent, by rw [hr]; exact g.room, oct, each⟩

def AskRs (r : RS) (next : Nat) (w : World) : Ending → World → Prop := fun e w' =>
  e = .returned (.int .i64 (askE (roomS r.sz) next)) ∧ Touch r.G w w' ∧ RopeMem w' r.F r.I r.L r.lv ∧ ∃ G' b', (∀ k, G' k → r.G k ∨ w.heap.size ≤ k) ∧
    (if askE (roomS r.sz) next = 0 then Grant w' r.I r.F G' b' next else (⟨r.I, r.L, r.lv, b', r.F, G'⟩ : RS).At w')

theorem ask_rs (r : RS) (v : Value) (l : List Sz) (w : World) (h : r.At w) (hv : SzIn w v l) (hl : SzOk l) :
    Calls Try.prog 33 #[.pointer (some ⟨r.I.r, 0, none⟩), v] w (AskRs r (roomS l) w) := by
  refine (ask_any r.I r.L r.lv r.b r.F r.G v l w h hv hl).mono ?_
  rintro e w' ⟨rfl, ⟨G', hbk, hG'⟩, ht, hrm⟩
  have GL : ∀ k, G' k → k < w'.heap.size := fun k hk => (hG' k hk).elim (fun h1 => Nat.lt_of_lt_of_le (h.gl k h1) ht.size) (fun h => h.2)
  have GW : ∀ k, G' k → r.G k ∨ w.heap.size ≤ k := fun k hk => (hG' k hk).imp id (fun h => h.1)
  have DI : ∀ k, r.F k → ¬ G' k := fun k hk hg => by
    rcases GW k hg with h1 | h1
    · exact h.dis k hk h1
    · have := h.fl k hk; omega
  have FL : ∀ k, r.F k → k < w'.heap.size := fun k hk => Nat.lt_of_lt_of_le (h.fl k hk) ht.size
  refine ⟨rfl, ht, hrm, G', askSt r.b (roomS r.sz) (roomS l), GW, ?_⟩
  show if askE (roomS (r.L.map Lm.sz)) (roomS l) = 0 then _ else _
  by_cases hE : askE (roomS (r.L.map Lm.sz)) (roomS l) = 0
  · rw [if_pos hE]
    obtain ⟨a1, a2, a3, a4, a5⟩ := askSt_ok h.acc h.bud h.tot h.ent h.room hE
    exact ⟨hbk, DI, FL, GL, a1, a2, a3, a4, a5⟩
  · rw [if_neg hE]
    rw [askSt_no hE] at hbk
    rw [show askSt r.b (roomS r.sz) (roomS l) = r.b from askSt_no hE]
    exact ⟨hrm, hbk, DI, FL, GL, h.own, h.pok, h.acc, h.bud, h.tot, h.ent, h.room, h.oct, h.each⟩

/-- What Level does. -/
def levS (p : RPar) (l : List Sz) : Bool × Int :=
  if l.length ≤ (piecesS p (totS l).1).length then (false, 0)
  else if askE (roomS l) (roomS (piecesS p (totS l).1)) = 0 then (true, 0) else (false, askE (roomS l) (roomS (piecesS p (totS l).1)))
def LevPost (r : RS) (w : World) : Ending → World → Prop := fun e w' =>
  e = .returned (.tuple #[.bool (levS r.I.p r.sz).1, .int .i64 (levS r.I.p r.sz).2]) ∧ ∃ r' : RS, r'.I = r.I ∧ r'.At w' ∧ r'.lc = (if (levS r.I.p r.sz).1 = true then madeC r.I.p (octC r.lc) else r.lc) ∧ (∀ k, r'.T k → r.T k ∨ w.heap.size ≤ k) ∧ Touch r.T w w'

theorem LevPost.same {r : RS} {w w' : World} {E : Int} (h : r.At w) (hb : Below w.heap.size w w') (hE : levS r.I.p r.sz = (false, E)) : LevPost r w (.returned (.tuple #[.bool false, .int .i64 E])) w' := by
  refine ⟨by rw [hE], r, rfl, h.below hb, by rw [hE]; rfl, fun k hk => Or.inl hk, Touch.of_below hb⟩

set_option maxHeartbeats 2000000 in
set_option maxRecDepth 100000 in
theorem level_rs (r : RS) (w : World) (h : r.At w) : Calls Try.prog 17 #[.pointer (some ⟨r.I.r, 0, none⟩)] w (LevPost r w) := by
  have H := Lib.hid h
  have h60 : r.L.length ≤ 60000 := by have := h.len; omega
  have c6 := h.rm.cells.2.2.2.2.2.2.1
  have LEN := Lib.hid (len_any r.I r.L r.lv r.F w h.rm h60 h.szok)
  obtain ⟨N, hN⟩ : ∃ N, (totS (r.L.map Lm.sz)).1 = N := ⟨_, rfl⟩
  have hoct := h.oct
  rw [hN] at LEN hoct
  have HN := Lib.hid hN
  have PC := Lib.hid (fun W (hW : Below w.heap.size w W) => piecesR_any r.I.r r.I.p N W (h.rm.below hW).par h.pok (by omega))
  clear h hN
  go_enter Try.func17, Try.ntmps17
  go_wp2_with fail
  refine LEN.out.mono ?_
  rintro e w1 ⟨rfl, hb1⟩
  have B1 := Lib.hid hb1
  clear hb1 LEN c6
  go_wp2_with fail
  refine (PC.out _ B1.out).mono ?_
  rintro e w2 ⟨v2, rfl, hrow2, hb2⟩
  have B2 := Lib.hid (B1.out.trans (hb2.mono B1.out.size))
  have hm2 := H.out.below B2.out
  have c7 := hm2.rm.cells.2.2.2.2.2.2.2.1
  obtain ⟨la, lc, hlv⟩ := wrow_sh hm2.rm.row
  rw [hlv] at c7
  have V2 := Lib.hid (SzIn.row hrow2)
  obtain ⟨va, vc, rfl⟩ := wrow_sh hrow2
  have HLV := Lib.hid hlv
  have PL := pieces_len r.I.p N H.out.pok.leaf.1
  have PB := Lib.hid (show SzOk (piecesS r.I.p N) from ⟨by omega, fun q hq => piecesS_bd H.out.pok q hq⟩)
  have HS := Lib.hid (show levS r.I.p r.sz = (if r.L.length ≤ (piecesS r.I.p N).length then (false, 0) else if askE (roomS r.sz) (roomS (piecesS r.I.p N)) = 0 then (true, 0) else (false, askE (roomS r.sz) (roomS (piecesS r.I.p N)))) by
    unfold levS
    rw [show (totS r.sz).1 = N from HN.out, show r.sz.length = r.L.length from List.length_map _])
  obtain ⟨M, hM⟩ : ∃ M, (piecesS r.I.p N).length = M := ⟨_, rfl⟩
  rw [hM] at PL HS hrow2 ⊢
  have HM := Lib.hid hM
  clear hrow2 hb2 PC B1 hm2 hlv hM
  by_cases hle : r.L.length ≤ M
  · have hd : ((r.L.length : Int) ≤ (M : Int)) := by omega
    have FIN := Lib.hid (LevPost.same H.out B2.out (by rw [HS.out, if_pos hle]))
    go_wp2_with fail
    go_ret2
    exact FIN.out
  · have hd : ¬ ((r.L.length : Int) ≤ (M : Int)) := by omega
    have V2' := V2.out
    rw [HM.out] at V2'
    have AK := Lib.hid (ask_rs r _ _ w2 (H.out.below B2.out) V2' PB.out)
    rw [if_neg hle] at HS
    obtain ⟨next, hnext⟩ : ∃ next, roomS (piecesS r.I.p N) = next := ⟨_, rfl⟩
    rw [hnext] at AK HS
    have HNX := Lib.hid hnext
    clear hnext hle V2'
    go_wp2_with fail
    refine AK.out.mono ?_
    rintro e w3 ⟨rfl, ht3, hrm3, G', b', hG, hif⟩
    have TT := Lib.hid ((Touch.of_below (F := r.G) B2.out).then ht3)
    have GW := Lib.hid (show ∀ k, G' k → r.G k ∨ w.heap.size ≤ k from fun k hk => (hG k hk).imp id (fun h => Nat.le_trans B2.out.size h))
    clear AK ht3 hG c7
    by_cases hE : askE (roomS r.sz) next = 0
    · rw [if_pos hE] at hif HS
      rw [hE]
      have GR := Lib.hid hif
      have RM3 := Lib.hid hrm3
      have OL : (octC r.lc).length = N := by rw [octC_len, H.out.szC]; exact HN.out
      have OC := Lib.hid (octets_any r.I r.L r.lv r.F w3 hrm3 h60 (by show (octC r.lc).length ≤ 100000; omega))
      have hby : bytes (octC r.lc) := by
        intro z hz
        obtain ⟨y, hy, hz⟩ := List.mem_flatMap.1 hz
        obtain ⟨x, hx, rfl⟩ := List.mem_map.1 hy
        exact (hrm3.mem x hx).2.1.2.2 z (List.mem_of_mem_take hz)
      have HOL := Lib.hid (And.intro OL hby)
      clear hif hrm3 hE OL hby
      go_wp2_with fail
      refine OC.out.mono ?_
      rintro e w4 ⟨v4, rfl, hv4, hb4⟩
      have R4 := Reads.own hv4 (by have := HOL.out.1; show (octC r.lc).length ≤ _; omega)
      obtain ⟨a4, c4, rfl⟩ := wrow_sh hv4
      obtain ⟨a5, c5, e5, hc1, hc2⟩ := ownsRow_lt2 hv4
      simp only [Value.slice.injEq] at e5
      obtain ⟨rfl, _, rfl⟩ := e5
      have RM4 := Lib.hid (RM3.out.below hb4)
      have MD := Lib.hid (made_any r.I.r r.I.p a4 (octC r.lc).length c4 (octC r.lc) w4 RM4.out.par H.out.pok R4 rfl (by have := HOL.out.1; omega) ⟨hc1, hc2⟩ HOL.out.2)
      have B4 := Lib.hid hb4
      clear OC hv4 R4 hc1 hc2 hb4
      go_wp2_with fail
      refine MD.out.mono ?_
      rintro e w5 ⟨lv', L', rfl, hma, hlc, heach, hb5⟩
      obtain ⟨na, nc, rfl⟩ := wrow_sh hma.row
      have B5 := Lib.hid (B4.out.trans (hb5.mono B4.out.size))
      have self5 := (hb5.block r.I.r (lt_of RM4.out.self)).trans RM4.out.self
      have RO := hma.rope RM4.out.fr (lt_of RM4.out.self) self5
      have c7' : w5.cell? ⟨r.I.r, 7, none⟩ = some r.lv := by rw [cell_of self5]; rfl
      have f7' : w5.frozen? ⟨r.I.r, 7, none⟩ = false := free_of self5 _
      rw [HLV.out] at c7'
      have ok' := fun y hy => (hma.mem y hy).2.1
      have SZL : L'.map Lm.sz = piecesS r.I.p N := by rw [← map_szC ok', hlc, madeC_sz r.I.p _ H.out.pok.leaf.1, HOL.out.1]
      have T5 : Touch r.F w3 (w5.setCell ⟨r.I.r, 7, none⟩ (.slice na L'.length nc)) := (Touch.of_below B5.out).setCell (p := ⟨r.I.r, 7, none⟩) (Or.inl H.out.rm.fr) _
      have hsz5 : (w5.setCell ⟨r.I.r, 7, none⟩ (.slice na L'.length nc)).heap.size = w5.heap.size := by simp [World.setCell]
      have s4 := B4.out.size
      have s5 := B5.out.size
      have sT := TT.out.size
      have NEW := GR.out.done RO T5 (fun k hk => hk.imp id (fun h => by omega)) (fun k hk => by
        rw [hsz5]
        rcases hk with hk | hk
        · exact Nat.lt_of_lt_of_le (GR.out.fl k hk) s5
        · exact hk.2) H.out.own H.out.pok (by rw [SZL]; exact HNX.out) (by
          rw [SZL, show (totS (piecesS r.I.p N)).1 = N by
            rw [← SZL, ← map_szC ok', hlc, ← octC_len, octC_made r.I.p _ H.out.pok.leaf.1]; exact HOL.out.1]
          exact hoct) heach
      have FIN : Hid (LevPost r w (.returned (.tuple #[.bool true, .int .i64 0])) (w5.setCell ⟨r.I.r, 7, none⟩ (.slice na L'.length nc))) := Lib.hid ⟨by rw [HS.out], ⟨r.I, L', .slice na L'.length nc, b', _, G'⟩, rfl, NEW, by rw [HS.out, if_pos rfl]; exact hlc, fun k hk => by
        rcases hk with hk | hk
        · rcases hk with hk | hk
          · exact Or.inl (Or.inl hk)
          · exact Or.inr (by omega)
        · exact (GW.out k hk).imp Or.inr id, (TT.out.mono (fun k hk => Or.inr hk)).then (T5.mono (fun k hk => Or.inl hk))⟩
      clear hma hlc heach hb5 MD self5 RO ok' SZL T5 NEW hsz5
      go_wp2_with fail
      go_ret2
      exact FIN.out
    · have hne : (askE (roomS r.sz) next == 0) = false := by simpa using hE
      rw [if_neg hE] at hif HS
      have FIN : Hid (LevPost r w (.returned (.tuple #[.bool false, .int .i64 (askE (roomS r.sz) next)])) w3) := Lib.hid ⟨by rw [HS.out], ⟨r.I, r.L, r.lv, b', r.F, G'⟩, rfl, hif, by rw [HS.out]; rfl, fun k hk => by
        rcases hk with hk | hk
        · exact Or.inl (Or.inl hk)
        · exact (GW.out k hk).imp Or.inr id, TT.out.mono (fun k hk => Or.inr hk)⟩
      generalize askE (roomS r.sz) next = E at *
      clear hif hrm3 hE
      go_wp2_with fail
      go_ret2
      exact FIN.out

end Go.Proofs.Ytidfidknflcioaa
