/-
  What each operation leaves. No conditions but bounds.
-/
import Derived.Test.YtiaedonhbafpjaaTopSlabPbu
namespace Go.Proofs.Ytiaedonhbafpjaa
open Go.RowKit
set_option linter.unusedVariables false
theorem wpList_append_at {P : Program} {ops : Array Oper} {rest : List Oper} {o : Oper} {a : Act} {Q : Exit → Act → World → Prop} (hgd : o.guard = none) (s x : Operand) (t : TypeId)
    (ho : o.op = .call { callee := .builtin .append, args := #[s, x], argTypes := #[t, t] })
    (base : Nat) (e : TypeId) (i : TypeInfo) (z : Value) (size bytes : Nat) (ht : P.underlying t = some (.slice e)) (hi : P.info? e = some i) (hz : i.zero = some z)
    (hsize : i.size = size) (hby : i.bytes = bytes) (hzs : z.cells.size = size) (hsz : 0 < size)
    (v : Value) (n : Nat) (xs : List Value) (wr : World) (e' : TypeId) (us : List Value) (hs : a.eval s = v) (hown : wr.ownsRow base e size v n xs)
    (hx : a.eval x = .slice (some ⟨wr.heap.size, 0, none⟩) 1 1) (hl : us.length = size) (h1 : ∀ u ∈ us, u.oneCell' = true)
    (h63 : n + 1 ≤ maxLen) (hbytes : (n + 1) * bytes ≤ 140737488355328) (hbase : base ≤ wr.heap.size)
    (h : ∀ g cap w', w'.ownsRow base e size (.slice (some ⟨g, 0, none⟩) (n + 1) cap) (n + 1) (xs ++ us) → wr.grownBy w' v.ownBlock → (v.ownBlock = some g ∨ wr.heap.size ≤ g) → wr.heap.size < w'.heap.size → wpList P ops Q rest (a.put o.dst (.slice (some ⟨g, 0, none⟩) (n + 1) cap)) w') :
    wpList P ops Q (o :: rest) a (wr.alloc (.cells us.toArray e')) := by
  refine wpList_plain hgd fun K hK => ?_
  have hnews : ∀ j u, us[j]? = some u → (wr.alloc (.cells us.toArray e')).cell? ((⟨wr.heap.size, 0, none⟩ : Addr).add j) = some u := by
    intro j u hj
    have e1 : (⟨wr.heap.size, 0, none⟩ : Addr).add j = ⟨wr.heap.size, j, none⟩ := by unfold Addr.add; split <;> simp_all
    rw [e1, cell_of_row _ _ _ _ _ _ (heap_alloc_new wr _)]
    simpa using hj
  obtain ⟨g, cap, w', hr, ho', hg', hp⟩ := run_append_place (P := P) (wr.alloc (.cells us.toArray e')) base t o.type e i z size bytes ht hi hz hsize hby hzs hsz v n xs (hown.alloc _) ⟨wr.heap.size, 0, none⟩ 1 1 us (by omega) hnews h1 (by omega) h63 hbytes (by simp; omega)
  unfold Oper.wp execOp
  simp only [ho, resolve, invoke, builtin, Sem.run_bind, Sem.run_pure, Result.andThen_ok, List.map_toArray, List.map_cons, List.map_nil, hs, hx, hr]
  have hg2 : wr.grownBy w' v.ownBlock := ⟨hg'.os, hg'.tape, hg'.output, Nat.le_trans (by simp) hg'.size, fun k hk hne => (hg'.block k (by simp; omega) hne).trans (heap_alloc_old wr _ hk)⟩
  exact hK _ _ (h g cap w' ho' hg2 (hp.imp id (fun x => by simp at x; omega)) (by have := hg'.size; simp at this; omega))

theorem copy_min_fact (w : World) (g len : Nat) (sp : Option Addr) (n sCap : Nat) (cur zs : List Int) (hg : byteRow w g cur) (hl : cur.length = len) (hr : Reads w .u8 (.slice sp n sCap) zs) (hn : zs.length = n) :
    ∃ w' r, (Builtin.copy_ #[33, 33] 3 #[.slice (some ⟨g, 0, none⟩) len len, .slice sp n sCap]).run Try.prog w = .ok r w' ∧ byteRow w' g (splice cur 0 (zs.take len)) ∧ Touch (fun k => k = g) w w' := by
  by_cases h0 : Nat.min n len = 0
  · have hz : zs.take len = [] := by
      refine List.eq_nil_of_length_eq_zero ?_
      rw [List.length_take, hn, Nat.min_comm]
      exact h0
    have hrun := run_copy_none (P := Try.prog) w 33 33 3 5 (some ⟨g, 0, none⟩) sp len len n sCap Try.underlying33 byteSize h0
    exact ⟨w, _, hrun, by rw [hz]; simpa [splice] using hg, Touch.refl _ _⟩
  · obtain ⟨a, cap, hv, _, hc⟩ := hr
    simp only [Value.slice.injEq] at hv
    obtain ⟨rfl, _, rfl⟩ := hv
    have hpos : 0 < n ∧ 0 < len := by
      have : Nat.min n len = min n len := rfl
      omega
    obtain ⟨b, o, rfl, hcell⟩ := hc (by intro e; rw [e] at hn; simp at hn; omega)
    have hg2 : w.heap[g]? = some (.cells (cur.map (Value.int .u8)).toArray 5 (0, 0)) := hg
    have htl : ((zs.take len).map (Value.int .u8)).length = Nat.min n len := by
      rw [List.length_map, List.length_take, hn]
      exact Nat.min_comm _ _
    have hrun := run_copy_row (P := Try.prog) w 33 33 3 5 g 0 len len ⟨b, o, none⟩ n sCap (cur.map (Value.int .u8)).toArray 5 ((zs.take len).map (Value.int .u8)) Try.underlying33 byteSize hg2 htl (fun j v hj => by
      rw [List.getElem?_map] at hj
      have ead : (⟨b, o, none⟩ : Addr).add j = ⟨b, o + j, none⟩ := by simp [Addr.add]
      rw [ead]
      cases hz : (zs.take len)[j]? with
      | none => rw [hz] at hj; cases hj
      | some u =>
        rw [hz] at hj
        cases hj
        have hj2 := (List.getElem?_eq_some_iff.1 hz).1
        rw [List.length_take] at hj2
        rw [List.getElem?_take_of_lt (by omega)] at hz
        rw [hcell j (by omega), List.getD_eq_getElem?_getD, hz]
        rfl) (by
      have : Nat.min n len ≤ len := Nat.min_le_right _ _
      rw [htl]
      simp
      omega) (by intro v hv; obtain ⟨z, _, rfl⟩ := List.mem_map.1 hv; rfl)
    refine ⟨w.setRow g ((cur.map (Value.int .u8)).toArray.toList.take 0 ++ (zs.take len).map (Value.int .u8) ++ (cur.map (Value.int .u8)).toArray.toList.drop (0 + ((zs.take len).map (Value.int .u8)).length)).toArray, _, hrun, ?_, ⟨rfl, rfl, rfl, by simp [World.setRow], fun k _ hk => setRow_other w g k _ hk⟩⟩
    have := setRow_heap w g _ ((cur.map (Value.int .u8)).toArray.toList.take 0 ++ (zs.take len).map (Value.int .u8) ++ (cur.map (Value.int .u8)).toArray.toList.drop (0 + ((zs.take len).map (Value.int .u8)).length)).toArray 5 _ hg2
    unfold byteRow
    rw [this]
    simp [splice, List.map_drop]
theorem rsO_splice (o : List Int) (kk : Nat) : splice (zeros kk) 0 (o.take kk) = rsO o kk := by
  unfold splice rsO zeros
  simp only [List.take_zero, List.nil_append, Nat.zero_add, List.drop_replicate, List.length_take]
  congr 2
  omega
/-- A slot of the row is another one. -/
theorem flat_set {A Bq : List Sq} {s s' : Sq} {kn : Nat} (h : A.length = kn) : (((((A ++ s :: Bq).flatMap Sq.cells).set (kn * 4) (.int .i64 s'.cls)).set (kn * 4 + 1) (.int .i64 s'.no)).set (kn * 4 + 2) (.int .i64 s'.at')).set (kn * 4 + 3) (.int .i64 s'.gen) = (A ++ s' :: Bq).flatMap Sq.cells := by
  have l1 : (A.flatMap Sq.cells).length = kn * 4 := by rw [sq_len, h]
  rw [List.flatMap_append, List.flatMap_cons, List.flatMap_append, List.flatMap_cons]
  have e : ∀ (j : Nat) (u : Value) (X : List Value), (A.flatMap Sq.cells ++ X).set (kn * 4 + j) u = A.flatMap Sq.cells ++ X.set j u := fun j u X => by
    rw [List.set_append_right _ _ (by omega), l1, Nat.add_sub_cancel_left]
  have e0 : ∀ (u : Value) (X : List Value), (A.flatMap Sq.cells ++ X).set (kn * 4) u = A.flatMap Sq.cells ++ X.set 0 u := fun u X => e 0 u X
  rw [e0, e, e, e]
  rfl
theorem rows_set {C D : List (Value × List Int)} {p p' : Value × List Int} {kn : Nat} (h : C.length = kn) : ((C ++ p :: D).map Prod.fst).set kn p'.1 = (C ++ p' :: D).map Prod.fst := by
  rw [List.map_append, List.map_append, List.map_cons, List.map_cons, List.set_append_right _ _ (by rw [List.length_map]; omega), List.length_map, h, Nat.sub_self]
  rfl
theorem touch_grown {w w' : World} {r : Option Nat} (h : w.grownBy w' r) : Touch (fun k => r = some k) w w' := (Touch.refl _ _).grown h (fun k hk => Or.inl hk)
section
variable {w0 w w' : World} {c bp n B k : Nat} {S : CaSt} {vc vs vi vg vw : Value} {F G : Nat → Prop} {b : BookSt} {ss gs : List Sq} {ws : List (Value × List Int)}
theorem SlT.of (m : SlM w0 c bp S vc vs F G n b vi vg vw ss gs ws w) (ht : S.tot = n) (hw : ws.length = ss.length) (hl : Law S (ss.zip (ws.map Prod.snd)) gs (2 * (k + 1))) (h1 : ss.length ≤ k + 1) (h2 : gs.length ≤ k + 1) : SlT w0 c bp (k + 1) vi vg vw w :=
  ⟨S, vc, vs, F, G, n, b, ss, gs, ws, ⟨m, ht, hw, hl⟩, h1, h2⟩
theorem SlI.refused {G' : Nat → Prop} {b' : BookSt} (h : SlI w0 c bp (2 * k) S vc vs F G n b vi vg vw ss gs ws w) (h1 : ss.length ≤ k) (h2 : gs.length ≤ k) (hc : CB w' c bp S vc vs F G' 10000000 n b') (hG : ∀ k, G' k → G k ∨ w.heap.size ≤ k) (ht : Touch G w w') : SlT w0 c bp (k + 1) vi vg vw w' :=
  SlT.of (h.mem.cache hc (fun k hk => Or.inl hk) hG (ht.mono (fun k hk => Or.inr hk))) h.tot h.wl (h.law.mono (by omega)) (by omega) (by omega)
theorem SlI.trimmed (h : SlI w0 c bp (2 * k) S vc vs F G n b vi vg vw ss gs ws w) (h1 : ss.length ≤ k) (h2 : gs.length ≤ k)
    (hp : ∃ vs' F' G' b', CB w' c bp S.trim vc vs' F' G' 10000000 (n - idleN S S.sl) b' ∧ (∀ k, F' k → F k ∨ w.heap.size ≤ k) ∧ (∀ k, G' k → G k ∨ w.heap.size ≤ k) ∧ Touch (fun k => F k ∨ G k) w w') : SlT w0 c bp (k + 1) vi vg vw w' := by
  obtain ⟨vs', F', G', b', hc, hF, hG, ht⟩ := hp
  exact SlT.of (h.mem.cache hc hF hG ht) (by rw [tot_trim, h.tot]) h.wl (h.law.trim.mono (by omega)) (by omega) (by omega)
/-- A slot given out, and its octets, are the last of their rows. -/
theorem SlI.given {S1 : CaSt} {cls n1 kk i : Nat} {x : Sl} {y : Cel} {vs' vi' vw' v : Value} {F' G' : Nat → Prop} {b' : BookSt} (h : SlI w0 c bp (2 * k) S vc vs F G n b vi vg vw ss gs ws w) (h1 : ss.length ≤ k) (h2 : gs.length ≤ k) (hin : AlIn S cls n S1 n1) (hfo : freeOf S1.sl cls = some (x, i, y)) (hk : kk ≤ clsN S.classes cls)
    (m : SlM w0 c bp (AlS S1 x i y kk) vc vs' F' G' n1 b' vi' vg vw' (ss ++ [⟨cls, x.no, i, y.gen⟩]) gs (ws ++ [(v, zeros kk)]) w') : SlT w0 c bp (k + 1) vi' vg vw' w' := by
  have L1 := h.law.alIn hin
  have hcl : S1.classes = S.classes := by
    rcases hin with ⟨rfl, _⟩ | ⟨_, _, p, g, q, rfl⟩ <;> rfl
  obtain ⟨L2, _⟩ := L1.take hfo (k := kk) (by rw [hcl]; exact hk)
  have hx := (freeOf_some hfo).1
  refine SlT.of m ((AlS.tot L1.sh hx).trans (hin.tot h.tot)) (by rw [List.length_append, List.length_append, h.wl]; rfl) ?_ (by rw [List.length_append]; simp; omega) (by omega)
  rw [List.map_append, List.zip_append h.ol.symm]
  exact (L2.mono (by omega)).perm (List.perm_append_singleton _ _).symm
theorem free_use {M : Nat} (h : CB w c bp S vc vs F G M n b) {x : Sl} {an : Nat} {y : Cel} {s : Sq} (u : InUse S x an y s.cls s.no s.at' s.gen) (hE : valE S s.cls s.no s.at' s.gen = 0) (hg : y.gen < 1000000000) :
    Calls Try.prog 11 #[.pointer (some ⟨c, 0, none⟩), .agg #[.int .i64 s.cls, .int .i64 s.no, .int .i64 s.at', .int .i64 s.gen]] w (fun e w' => e = .returned (.int .i64 0) ∧ CB w' c bp (S.put { x with cl := x.cl.set an ⟨y.gen + 1, 0, false⟩ }) vc vs F G M n b ∧ Touch (fun k => F k ∨ G k) w w') := by
  refine (freeS_ok h.cm u hE hg).mono ?_
  rintro e w' ⟨rfl, hm, ht⟩
  have hq := (h.cm.sl x (slabOf_some u.no).1).fq
  exact ⟨rfl, ⟨hm, h.bk.touch ht (fun k hk hg => h.dis k (hk ▸ hq) hg), h.dis, fun k hk => Nat.lt_of_lt_of_le (h.fl k hk) ht.size⟩, ht.mono (fun k hk => Or.inl (hk ▸ hq))⟩
theorem SlI.freed {A Bq : List Sq} {C D : List (Value × List Int)} {v vi' vg' vw' : Value} {o : List Int} {s : Sq} {x : Sl} {an : Nat} {y : Cel} (h : SlI w0 c bp (2 * k) S vc vs F G n b vi vg vw ss gs ws w) (h1 : ss.length ≤ k) (h2 : gs.length ≤ k) (hA : ss = A ++ s :: Bq) (hC : ws = C ++ (v, o) :: D) (u : InUse S x an y s.cls s.no s.at' s.gen)
    (hp : (ss.zip (ws.map Prod.snd)).Perm ((s, o) :: (A ++ Bq).zip ((C ++ D).map Prod.snd))) (m : SlM w0 c bp (S.put { x with cl := x.cl.set an ⟨y.gen + 1, 0, false⟩ }) vc vs F G n b vi' vg' vw' (A ++ Bq) (gs ++ [s]) (C ++ D) w') : SlT w0 c bp (k + 1) vi' vg' vw' w' := by
  have l1 := congrArg List.length hA
  have l2 := congrArg List.length hC
  have l3 := h.wl
  simp only [List.length_append, List.length_cons] at l1 l2
  exact SlT.of m ((tot_put (z := { x with cl := x.cl.set an ⟨y.gen + 1, 0, false⟩ }) S h.law.sh.nos (slabOf_some u.no).1 rfl rfl).trans h.tot) (by simp only [List.length_append]; omega) (((h.law.perm hp).free u).mono (by omega)) (by simp only [List.length_append]; omega) (by simp only [List.length_append, List.length_cons, List.length_nil]; omega)
theorem flat_cut {A Bq : List Sq} {s : Sq} {kn : Nat} (h : A.length = kn) : ((A ++ s :: Bq).flatMap Sq.cells).take (kn * 4) ++ ((A ++ s :: Bq).flatMap Sq.cells).drop ((kn + 1) * 4) = (A ++ Bq).flatMap Sq.cells := by
  have l1 : (A.flatMap Sq.cells).length = kn * 4 := by rw [sq_len, h]
  have l2 : s.cells.length = 4 := rfl
  rw [List.flatMap_append, List.flatMap_cons, List.flatMap_append, List.take_left' l1]
  congr 1
  rw [← List.append_assoc, List.drop_left' (by rw [List.length_append, l1, l2]; omega)]
theorem rows_cut {C D : List (Value × List Int)} {p : Value × List Int} {kn : Nat} (h : C.length = kn) : ((C ++ p :: D).map Prod.fst).take (kn * 1) ++ ((C ++ p :: D).map Prod.fst).drop ((kn + 1) * 1) = (C ++ D).map Prod.fst := by
  rw [Nat.mul_one, Nat.mul_one, List.map_append, List.map_cons, List.map_append, List.take_left' (by rw [List.length_map, h])]
  congr 1
  have : C.map Prod.fst ++ p.1 :: D.map Prod.fst = (C.map Prod.fst ++ [p.1]) ++ D.map Prod.fst := by simp
  rw [this, List.drop_left' (by simp [h])]
theorem RsPost.form {M : Nat} {x : Sl} {an : Nat} {y : Cel} {kz : Int} {e : Ending} (h : RsPost w c bp S vc vs F G M n x an y kz e w') : ∃ a b c d er : Int, e = .returned (.tuple #[.agg #[.int .i64 a, .int .i64 b, .int .i64 c, .int .i64 d], .int .i64 er]) := by
  rcases h with ⟨er, _, rfl, _⟩ | ⟨_, _, rfl, _⟩ | ⟨_, _, S1, n1, x1, i, y1, vs', F', G', b', _, _, rfl, _⟩
  · exact ⟨0, 0, 0, 0, er, rfl⟩
  · exact ⟨_, _, _, _, 0, rfl⟩
  · exact ⟨_, _, _, _, 0, rfl⟩
theorem RsPost.touch {M : Nat} {x : Sl} {an : Nat} {y : Cel} {kz : Int} {e : Ending} (h : RsPost w c bp S vc vs F G M n x an y kz e w') : Touch (fun k => F k ∨ G k) w w' := by
  rcases h with ⟨er, _, _, G', b', _, _, ht⟩ | ⟨_, _, _, b', _, ht⟩ | ⟨_, _, S1, n1, x1, i, y1, vs', F', G', b', _, _, _, _, _, _, ht⟩
  · exact ht.mono (fun k hk => Or.inr hk)
  · exact ht
  · exact ht
/-- A box beside all that is kept is written. -/
theorem SlM.box (h : SlM w0 c bp S vc vs F G n b vi vg vw ss gs ws w) {r : Nat} (ht : Touch (fun k => k = r) w w') (h0 : w0.heap.size ≤ r) (hF : ¬ F r) (hG : ¬ G r) (hi : vi.ownBlock ≠ some r) (hg : vg.ownBlock ≠ some r) (hw : vw.ownBlock ≠ some r) (hr : ∀ e ∈ ws, e.1.ownBlock ≠ some r) : SlM w0 c bp S vc vs F G n b vi vg vw ss gs ws w' := by
  obtain ⟨h1, h2⟩ := h.far ht (fun k hk => hk ▸ ⟨h0, hF, hG⟩)
  exact ⟨h1, h2, h.fb, h.gb, row_far h.ri ht (fun k hk e => hi (e ▸ hk)), row_far h.rg ht (fun k hk e => hg (e ▸ hk)), row_far h.rw ht (fun k hk e => hw (e ▸ hk)), fun e he => ⟨row_far (h.ro e he).1 ht (fun k hk e' => hr e he (e' ▸ hk)), (h.ro e he).2⟩, h.sep, h.di, h.dg, h.dw, h.dr⟩
/-- What lies behind the memory of a while ago. -/
theorem SlM.behind (h : SlM w0 c bp S vc vs F G n b vi vg vw ss gs ws w) {r : Nat} (hr : w.heap.size ≤ r) : w0.heap.size ≤ r ∧ ¬ F r ∧ ¬ G r ∧ vi.ownBlock ≠ some r ∧ vg.ownBlock ≠ some r ∧ vw.ownBlock ≠ some r ∧ ∀ e ∈ ws, e.1.ownBlock ≠ some r :=
  ⟨Nat.le_trans h.bel.size hr, fun e => by have := h.cb.fl r e; omega, fun e => by have := h.cb.bk.gl r e; omega, fun e => by have := (h.ri.lt r e).2; omega, fun e => by have := (h.rg.lt r e).2; omega, fun e => by have := (h.rw.lt r e).2; omega, fun e he e2 => by have := ((h.ro e he).1.lt r e2).2; omega⟩
theorem row_of_bytes {w : World} {g kk : Nat} {o : List Int} (h : byteRow w g o) (hk : o.length = kk) (h4 : kk ≤ 4096) : w.ownsRow 0 5 1 (.slice (some ⟨g, 0, none⟩) kk kk) kk (o.map (Value.int .u8)) :=
  ⟨by rw [List.length_map, hk, Nat.mul_one], Or.inr ⟨g, kk, (o.map (Value.int .u8)).toArray, rfl, Nat.zero_le _, h, Nat.le_refl _, by unfold maxLen; omega, by simp [hk], by
    show ((o.map (Value.int .u8)).toArray.toList).take (kk * 1) = _
    rw [List.take_of_length_le (by simp [hk])]⟩⟩
/-- A slot and its octets are others. -/
theorem SlM.replaced {A Bq : List Sq} {C D : List (Value × List Int)} {s s' : Sq} {p : Value × List Int} {o' : List Int} {m kn gi ci gw cw gx kk : Nat} (h : SlM w0 c bp S vc vs F G n b (.slice (some ⟨gi, 0, none⟩) m ci) vg (.slice (some ⟨gw, 0, none⟩) m cw) (A ++ s :: Bq) gs (C ++ p :: D) w)
    (hm : (A ++ s :: Bq).length = m) (hw : (C ++ p :: D).length = m) (hA : A.length = kn) (hC : C.length = kn) (hx : byteRow w gx o') (hk : o'.length = kk) (h4 : kk ≤ 4096) (hb : bytes o') (hfr : w0.heap.size ≤ gx ∧ ¬ F gx ∧ ¬ G gx) (hgi : gx ≠ gi) (hsep : ∀ e ∈ C ++ p :: D, e.1.ownBlock ≠ some gx) :
    SlM w0 c bp S vc vs F G n b (.slice (some ⟨gi, 0, none⟩) m ci) vg (.slice (some ⟨gw, 0, none⟩) m cw) (A ++ s' :: Bq) gs (C ++ (.slice (some ⟨gx, 0, none⟩) kk kk, o') :: D)
      (((((w.setCell ⟨gi, kn * 4, none⟩ (.int .i64 s'.cls)).setCell ⟨gi, kn * 4 + 1, none⟩ (.int .i64 s'.no)).setCell ⟨gi, kn * 4 + 2, none⟩ (.int .i64 s'.at')).setCell ⟨gi, kn * 4 + 3, none⟩ (.int .i64 s'.gen)).setCell ⟨gw, kn, none⟩ (.slice (some ⟨gx, 0, none⟩) kk kk)) := by
  have hri := h.ri
  rw [hm] at hri
  have r4 := wrow_set (wrow_set (wrow_set (wrow_set hri (kn * 4) (.int .i64 s'.cls)) (kn * 4 + 1) (.int .i64 s'.no)) (kn * 4 + 2) (.int .i64 s'.at')) (kn * 4 + 3) (.int .i64 s'.gen)
  rw [flat_set hA] at r4
  have t4 : Touch (fun k => k = gi) w ((((w.setCell ⟨gi, kn * 4, none⟩ (.int .i64 s'.cls)).setCell ⟨gi, kn * 4 + 1, none⟩ (.int .i64 s'.no)).setCell ⟨gi, kn * 4 + 2, none⟩ (.int .i64 s'.at')).setCell ⟨gi, kn * 4 + 3, none⟩ (.int .i64 s'.gen)) :=
    ((((Touch.refl (fun k => k = gi) w).setCell (p := ⟨gi, kn * 4, none⟩) (Or.inl rfl) _).setCell (p := ⟨gi, kn * 4 + 1, none⟩) (Or.inl rfl) _).setCell (p := ⟨gi, kn * 4 + 2, none⟩) (Or.inl rfl) _).setCell (p := ⟨gi, kn * 4 + 3, none⟩) (Or.inl rfl) _
  have hm' : (A ++ s' :: Bq).length = m := by simp only [List.length_append, List.length_cons] at hm ⊢; exact hm
  have M1 := h.toI (vi' := .slice (some ⟨gi, 0, none⟩) m ci) (ss' := A ++ s' :: Bq) (t4.mono (fun k hk => by rw [hk]; rfl)) (by rw [hm']; exact r4) (fun k hk => Or.inl hk)
  have hx1 : byteRow _ gx o' := (t4.block gx (lt_of hx) hgi).trans hx
  generalize ((((w.setCell ⟨gi, kn * 4, none⟩ (.int .i64 s'.cls)).setCell ⟨gi, kn * 4 + 1, none⟩ (.int .i64 s'.no)).setCell ⟨gi, kn * 4 + 2, none⟩ (.int .i64 s'.at')).setCell ⟨gi, kn * 4 + 3, none⟩ (.int .i64 s'.gen)) = w1 at *
  have hrw := M1.rw
  rw [hw] at hrw
  have r1 := wrow_set hrw kn (.slice (some ⟨gx, 0, none⟩) kk kk)
  have e1 := rows_set (D := D) (p := p) (p' := ((.slice (some ⟨gx, 0, none⟩) kk kk : Value), o')) hC
  simp only at e1
  rw [e1] at r1
  have hw' : (C ++ ((.slice (some ⟨gx, 0, none⟩) kk kk : Value), o') :: D).length = m := by simp only [List.length_append, List.length_cons] at hw ⊢; exact hw
  refine M1.toW (((Touch.refl (fun k => k = gw) w1).setCell (p := ⟨gw, kn, none⟩) (Or.inl rfl) _).mono (fun k hk => by rw [hk]; rfl)) (by rw [hw']; exact r1) (fun k hk => Or.inl hk) (fun e he => ?_) ?_
  · rcases List.mem_append.1 he with he | he
    · exact Or.inl (List.mem_append_left _ he)
    · rcases List.mem_cons.1 he with rfl | he
      · refine Or.inr ⟨by simp only [hk]; exact row_of_bytes hx1 hk h4, hb, fun k hk2 => ?_⟩
        simp [Value.ownBlock] at hk2
        subst hk2
        exact hfr
      · exact Or.inl (List.mem_append_right _ (List.mem_cons_of_mem _ he))
  · have hs := h.sep
    rw [List.pairwise_append, List.pairwise_cons] at hs ⊢
    refine ⟨hs.1, ⟨fun e he k hk2 hk3 => ?_, hs.2.1.2⟩, fun e he e' he' k hk2 hk3 => ?_⟩
    · simp [Value.ownBlock] at hk2
      subst hk2
      exact hsep e (List.mem_append_right _ (List.mem_cons_of_mem _ he)) hk3
    · rcases List.mem_cons.1 he' with rfl | he'
      · simp [Value.ownBlock] at hk3
        subst hk3
        exact hsep e (List.mem_append_left _ he) hk2
      · exact hs.2.2 e he e' (List.mem_cons_of_mem _ he') k hk2 hk3
theorem SlM.turned {W W3 wy : World} {S' : CaSt} {vs' : Value} {F' G' : Nat → Prop} {n' r : Nat} {b' : BookSt} (h : SlM w0 c bp S vc vs F G n b vi vg vw ss gs ws w) (hW : Below w.heap.size w W) (hc : CB W3 c bp S' vc vs' F' G' 10000000 n' b') (hF : ∀ k, F' k → F k ∨ W.heap.size ≤ k) (hG : ∀ k, G' k → G k ∨ W.heap.size ≤ k) (ht : Touch (fun k => F k ∨ G k) W W3) (hr1 : w.heap.size ≤ r) (hr2 : r < W.heap.size ∨ W3.heap.size ≤ r) (htr : Touch (fun k => k = r) W3 wy) :
    SlM w0 c bp S' vc vs' F' G' n' b' vi vg vw ss gs ws wy := by
  have hb := h.behind hr1
  refine ((h.below hW).cache hc hF hG ht).box htr hb.1 (fun e => ?_) (fun e => ?_) hb.2.2.2.1 hb.2.2.2.2.1 hb.2.2.2.2.2.1 hb.2.2.2.2.2.2
  · have h1 := hc.fl r e
    rcases hF r e with e | e
    · exact hb.2.1 e
    · omega
  · have h1 := hc.bk.gl r e
    rcases hG r e with e | e
    · exact hb.2.2.1 e
    · omega
theorem SlI.resErr {W W3 wy : World} {x : Sl} {an : Nat} {y : Cel} {cb ra rb rc rd er : Int} {r : Nat} (h : SlI w0 c bp (2 * k) S vc vs F G n b vi vg vw ss gs ws w) (h1 : ss.length ≤ k) (h2 : gs.length ≤ k) (hW : Below w.heap.size w W) (hp : RsPost W c bp S vc vs F G 10000000 n x an y cb (.returned (.tuple #[.agg #[.int .i64 ra, .int .i64 rb, .int .i64 rc, .int .i64 rd], .int .i64 er])) W3) (her : er ≠ 0)
    (htr : Touch (fun k => k = r) W3 wy) (hr1 : w.heap.size ≤ r) (hr2 : r < W.heap.size ∨ W3.heap.size ≤ r) : SlT w0 c bp (k + 1) vi vg vw wy := by
  rcases hp with ⟨er', _, he, G', b', hc, hG, ht⟩ | ⟨_, _, he, _⟩ | ⟨_, _, S1, n1, x1, i, y1, vs', F', G', b', _, _, he, _⟩
  · exact SlT.of (h.mem.turned hW hc (fun k hk => Or.inl hk) hG (ht.mono (fun k hk => Or.inr hk)) hr1 hr2 htr) h.tot h.wl (h.law.mono (by omega)) (by omega) (by omega)
  · simp at he
    exact absurd he.2 her
  · simp at he
    exact absurd he.2 her
theorem clsE_ok {kz : Int} (h : clsE S kz = 0) (ho : S.closed = false) : clsIdx S.classes kz < S.classes.length ∧ 0 ≤ kz := by
  have h1 := clsIdx_le S.classes kz
  unfold clsE at h
  rw [ho] at h
  simp only [Bool.false_eq_true, if_false] at h
  split at h
  · cases h
  · split at h
    · cases h
    · omega
theorem SlI.resized {W W3 wy : World} {A Bq : List Sq} {C D : List (Value × List Int)} {o : List Int} {s : Sq} {x : Sl} {an : Nat} {y : Cel} {cb ra rb rc rd : Int} {r : Nat} (h : SlI w0 c bp (2 * k) S vc vs F G n b vi vg vw ss gs ws w) (u : InUse S x an y s.cls s.no s.at' s.gen)
    (hperm : (ss.zip (ws.map Prod.snd)).Perm ((s, o) :: (A ++ Bq).zip ((C ++ D).map Prod.snd))) (hyl : y.len = o.length) (hys : y.len ≤ clsN S.classes x.cls) (hyo : octOf S x an y.len = o) (hW : Below w.heap.size w W) (hp : RsPost W c bp S vc vs F G 10000000 n x an y cb (.returned (.tuple #[.agg #[.int .i64 ra, .int .i64 rb, .int .i64 rc, .int .i64 rd], .int .i64 0])) W3)
    (htr : Touch (fun k => k = r) W3 wy) (hr1 : w.heap.size ≤ r) (hr2 : r < W.heap.size ∨ W3.heap.size ≤ r) :
    ∃ kk : Nat, cb = (kk : Int) ∧ kk ≤ 4096 ∧ ∃ S' vs' F' G' n' b' s' gsx, SlM w0 c bp S' vc vs' F' G' n' b' vi vg vw ss gs ws wy ∧ S'.tot = n' ∧ Law S' ((s', rsO o kk) :: (A ++ Bq).zip ((C ++ D).map Prod.snd)) (gs ++ gsx) (2 * (k + 1)) ∧ ra = s'.cls ∧ rb = s'.no ∧ rc = s'.at' ∧ rd = s'.gen ∧ ((gsx = [] ∧ s' = s) ∨ (gsx = [s] ∧ s'.cls ≠ s.cls)) := by
  have hkk : ∀ {cl : Nat}, clsE S cb = 0 → clsIdx S.classes cb = cl → ∃ kk : Nat, cb = (kk : Int) ∧ kk ≤ 4096 ∧ kk ≤ clsN S.classes cl := fun {cl} h0 h1 => by
    obtain ⟨h2, h3⟩ := clsE_ok h0 h.law.opn
    have h4 := clsIdx_get h2
    rw [h1] at h4 h2
    have h5 := (clsErr_all h.mem.cb.cm.cok).2.2.1 cl h2
    exact ⟨cb.toNat, by omega, by omega, by unfold clsN; omega⟩
  have hx := (slabOf_some u.no).1
  have LP := h.law.perm hperm
  rcases hp with ⟨er', her, he, _⟩ | ⟨h0, hcl, he, b', hc, ht⟩ | ⟨h0, hcl, S1, n1, x1, i, y1, vs', F', G', b', hin, hfo, he, hc, hF, hG, ht⟩
  · simp at he
    exact absurd he.2.symm her
  · obtain ⟨kk, hcb, hk4, hkc⟩ := hkk h0 hcl
    subst hcb
    rw [Int.toNat_natCast] at hc
    simp at he
    obtain ⟨rfl, rfl, rfl, rfl⟩ := he
    have L2 := LP.stay u hyl hyo hys kk hkc
    refine ⟨kk, rfl, hk4, _, vs, F, G, n, b', s, [], h.mem.turned hW hc (fun k hk => Or.inl hk) (fun k hk => Or.inl hk) ht hr1 hr2 htr, ?_, by rw [List.append_nil]; exact L2.mono (by omega), u.cls.symm, (slabOf_some u.no).2, u.at'.symm, u.gen, Or.inl ⟨rfl, rfl⟩⟩
    unfold RsStay
    exact (tot_put (z := { x with cs := fill 0 x.cs (an * clsN S.classes x.cls + min y.len kk) (clsN S.classes x.cls - min y.len kk), cl := x.cl.set an ⟨y.gen, kk, true⟩ }) S h.law.sh.nos hx rfl rfl).trans h.tot
  · obtain ⟨kk, hcb, hk4, hkc⟩ := hkk h0 rfl
    subst hcb
    rw [Int.toNat_natCast] at hc
    simp at he
    obtain ⟨rfl, rfl, rfl, rfl⟩ := he
    have L2 := LP.move u hyl hyo hin hfo hcl kk hkc
    refine ⟨kk, rfl, hk4, _, vs', F', G', n1, b', ⟨(clsIdx S.classes (kk : Int) : Nat), x1.no, i, y1.gen⟩, [s], h.mem.turned hW hc hF hG ht hr1 hr2 htr, ?_, L2.mono (by omega), rfl, rfl, rfl, rfl, Or.inr ⟨rfl, fun e => hcl ?_⟩⟩
    · have L1 := h.law.alIn hin
      have hx1 := (freeOf_some hfo).1
      have e1 := tot_put (z := { x1 with cs := splice (fill 0 x1.cs (i * clsN S1.classes x1.cls) (clsN S1.classes x1.cls)) (i * clsN S1.classes x1.cls) (octOf S x an (min y.len kk)), cl := x1.cl.set i ⟨y1.gen, kk, true⟩ }) S1 L1.sh.nos hx1 rfl rfl
      have hxS := (hin.mem hx).1
      have hne : x.no ≠ x1.no := fun e => hcl (by
        have a1 := L1.sh.at hxS
        have a2 := L1.sh.at hx1
        rw [← e, a1] at a2
        rw [← (freeOf_some hfo).2.1, ← Option.some.inj a2])
      have hx2 : x ∈ (S1.put { x1 with cs := splice (fill 0 x1.cs (i * clsN S1.classes x1.cls) (clsN S1.classes x1.cls)) (i * clsN S1.classes x1.cls) (octOf S x an (min y.len kk)), cl := x1.cl.set i ⟨y1.gen, kk, true⟩ }).sl := slab_put hxS hne
      have nos2 : ((S1.put { x1 with cs := splice (fill 0 x1.cs (i * clsN S1.classes x1.cls) (clsN S1.classes x1.cls)) (i * clsN S1.classes x1.cls) (octOf S x an (min y.len kk)), cl := x1.cl.set i ⟨y1.gen, kk, true⟩ }).sl.map Sl.no).Pairwise (· < ·) := by
        have e := put_maps (x' := { x1 with cs := splice (fill 0 x1.cs (i * clsN S1.classes x1.cls) (clsN S1.classes x1.cls)) (i * clsN S1.classes x1.cls) (octOf S x an (min y.len kk)), cl := x1.cl.set i ⟨y1.gen, kk, true⟩ }) Sl.no L1.sh.nos hx1 rfl rfl
        show (List.map Sl.no (List.map _ _)).Pairwise _
        rw [e]; exact L1.sh.nos
      have e2 := tot_put (z := { x with cl := x.cl.set an ⟨y.gen + 1, 0, false⟩ }) _ nos2 hx2 rfl rfl
      exact e2.trans (e1.trans (hin.tot h.tot))
    · have h1 := u.cls
      simp only at e
      omega
theorem SlT.below (h : SlT w0 c bp k vi vg vw w) (hb : Below w.heap.size w w') : SlT w0 c bp k vi vg vw w' := by
  obtain ⟨S, vc, vs, F, G, n, b, ss, gs, ws, hI, h1, h2⟩ := h
  exact ⟨S, vc, vs, F, G, n, b, ss, gs, ws, hI.below hb, h1, h2⟩
end

end Go.Proofs.Ytiaedonhbafpjaa
