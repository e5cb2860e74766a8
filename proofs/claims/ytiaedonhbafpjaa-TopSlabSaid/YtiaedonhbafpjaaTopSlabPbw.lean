/-
  What the law's writes through Look leave. No conditions but bounds.
-/
import Derived.Test.YtiaedonhbafpjaaTopSlabPbv
namespace Go.Proofs.Ytiaedonhbafpjaa
open Go.RowKit
set_option linter.unusedVariables false
theorem byteRow_put {w : World} {g i : Nat} {cs : List Int} {z : Int} (h : byteRow w g cs) : byteRow (w.setCell ⟨g, i, none⟩ (.int .u8 z)) g (cs.set i z) := by
  have h2 : w.heap[g]? = some (.cells (cs.map (Value.int .u8)).toArray 5 (0, 0)) := h
  unfold byteRow
  rw [block_setCell h2]
  simp [List.map_set]
theorem bytes_put {cs : List Int} {i : Nat} {z : Int} (h : bytes cs) (hz : 0 ≤ z ∧ z ≤ 255) : bytes (cs.set i z) := fun u hu => by
  rcases List.mem_or_eq_of_mem_set hu with h1 | h1
  · exact h u h1
  · rw [h1]; exact hz
section
variable {w0 w w' : World} {c bp n B k : Nat} {S : CaSt} {vc vs vi vg vw : Value} {F G : Nat → Prop} {b : BookSt} {ss gs : List Sq} {ws : List (Value × List Int)}
/-- Look of a whole slot. -/
theorem look_use {x : Sl} {an : Nat} {y : Cel} {s : Sq} {ol : Nat} (m : CaMem w F c bp S vc vs) (u : InUse S x an y s.cls s.no s.at' s.gen) (hE : valE S s.cls s.no s.at' s.gen = 0) (hl : y.len = ol) :
    Calls Try.prog 14 #[.pointer (some ⟨c, 0, none⟩), .agg #[.int .i64 s.cls, .int .i64 s.no, .int .i64 s.at', .int .i64 s.gen], .int .i64 0, .int .i64 (ol : Int)] w (fun e w' => ∃ pa pc, e = .returned (.tuple #[.slice pa ol pc, .int .i64 0]) ∧ (0 < ol → pa = some ⟨x.g, an * clsN S.classes x.cls, none⟩ ∧ pc = ol) ∧ ol ≤ pc ∧ Below w.heap.size w w') := by
  refine (lookS_ok m u hE 0 (ol : Int)).mono ?_
  rintro e w' ⟨hb, h⟩
  rw [if_pos (by omega)] at h
  rcases h with rfl | ⟨h0, a, rfl⟩
  · exact ⟨some ⟨x.g, an * clsN S.classes x.cls, none⟩, ol, by simp, fun _ => ⟨rfl, rfl⟩, Nat.le_refl _, hb⟩
  · obtain rfl : ol = 0 := by omega
    exact ⟨a, 0, rfl, fun h => by omega, Nat.le_refl _, hb⟩
/-- A row of octets is written. -/
theorem SlM.toR {C D : List (Value × List Int)} {v : Value} {o o' : List Int} (h : SlM w0 c bp S vc vs F G n b vi vg vw ss gs (C ++ (v, o) :: D) w) (ht : Touch (fun k => v.ownBlock = some k) w w') (hr : w'.ownsRow 0 5 1 v o'.length (o'.map (Value.int .u8))) (hb : bytes o') :
    SlM w0 c bp S vc vs F G n b vi vg vw ss gs (C ++ (v, o') :: D) w' := by
  have hv := h.ro (v, o) (by simp)
  obtain ⟨h1, h2⟩ := h.far ht (fun k hk => h.dr (v, o) (by simp) k hk)
  have hs := h.sep
  rw [List.pairwise_append, List.pairwise_cons] at hs
  have other : ∀ e, e ∈ C ∨ e ∈ D → ∀ k, e.1.ownBlock = some k → v.ownBlock ≠ some k := fun e he k hk hk2 => by
    rcases he with he | he
    · exact hs.2.2 e he (v, o) (List.mem_cons_self) k hk hk2
    · exact hs.2.1.1 e he k hk2 hk
  have keep : ∀ e, e ∈ C ∨ e ∈ D → w'.ownsRow 0 5 1 e.1 e.2.length (e.2.map (Value.int .u8)) ∧ bytes e.2 := fun e he => by
    have hm := h.ro e (by rcases he with he | he <;> simp [he])
    exact ⟨row_far hm.1 ht (fun k hk e2 => other e he k hk e2), hm.2⟩
  have mem : ∀ e, e ∈ C ++ (v, o') :: D → e = (v, o') ∨ e ∈ C ∨ e ∈ D := fun e he => by
    rcases List.mem_append.1 he with he | he
    · exact Or.inr (Or.inl he)
    · rcases List.mem_cons.1 he with he | he
      · exact Or.inl he
      · exact Or.inr (Or.inr he)
  refine ⟨h1, h2, h.fb, h.gb, row_far h.ri ht (fun k hk e => blk_apart h.ri hv.1 (by decide) hk e), row_far h.rg ht (fun k hk e => blk_apart h.rg hv.1 (by decide) hk e), ?_, fun e he => ?_, ?_, h.di, h.dg, h.dw, fun e he k hk => ?_⟩
  · have e1 : (C ++ (v, o') :: D).length = (C ++ (v, o) :: D).length := by simp
    have e2 : (C ++ (v, o') :: D).map Prod.fst = (C ++ (v, o) :: D).map Prod.fst := by simp
    rw [e1, e2]
    exact row_far h.rw ht (fun k hk e => blk_apart h.rw hv.1 (by decide) hk e)
  · rcases mem e he with rfl | he
    · exact ⟨hr, hb⟩
    · exact keep e he
  · rw [List.pairwise_append, List.pairwise_cons]
    refine ⟨hs.1, ⟨fun e he => hs.2.1.1 e he, hs.2.1.2⟩, fun e he e' he' => ?_⟩
    rcases List.mem_cons.1 he' with rfl | he'
    · exact hs.2.2 e he (v, o) List.mem_cons_self
    · exact hs.2.2 e he e' (List.mem_cons_of_mem _ he')
  · rcases mem e he with rfl | he
    · exact h.dr (v, o) (by simp) k hk
    · exact h.dr e (by rcases he with he | he <;> simp [he]) k hk
/-- Octets of the slot are written. -/
theorem SlM.toS {x : Sl} {cs : List Int} {i : Nat} {z : Int} (h : SlM w0 c bp (S.put { x with cs := cs }) vc vs F G n b vi vg vw ss gs ws w) (hx : x ∈ S.sl) (hl : cs.length = x.cs.length) (hz : 0 ≤ z ∧ z ≤ 255) :
    SlM w0 c bp (S.put { x with cs := cs.set i z }) vc vs F G n b vi vg vw ss gs ws (w.setCell ⟨x.g, i, none⟩ (.int .u8 z)) := by
  have hin : ({ x with cs := cs } : Sl) ∈ (S.put { x with cs := cs }).sl := put_in hx rfl
  have mx := h.cb.cm.sl _ hin
  have ht : Touch (fun k => k = x.g) w (w.setCell ⟨x.g, i, none⟩ (.int .u8 z)) := (Touch.refl (fun k => k = x.g) w).setCell (p := ⟨x.g, i, none⟩) (Or.inl rfl) _
  have m := h.cb.cm.octs hin (byteRow_put (i := i) (z := z) mx.oct) (by rw [List.length_set]) (bytes_put mx.ob hz) ht
  have e : (S.put { x with cs := cs }).put { x with cs := cs.set i z } = S.put { x with cs := cs.set i z } := put_put S _ _ rfl
  have m2 : CaMem _ F c bp (S.put { x with cs := cs.set i z }) vc vs := e ▸ m
  have hg : F x.g := mx.fg
  exact h.cache ⟨m2, h.cb.bk.touch ht (fun k hk hk2 => h.cb.dis k (hk ▸ hg) hk2), h.cb.dis, fun k hk => Nat.lt_of_lt_of_le (h.cb.fl k hk) ht.size⟩ (fun k hk => Or.inl hk) (fun k hk => Or.inl hk) (ht.mono (fun k hk => Or.inl (hk ▸ hg)))

/-- What holds while the octets are turned. -/
def PkI (w0 : World) (c bp n : Nat) (S : CaSt) (vc vs vi vg vw : Value) (F G : Nat → Prop) (b : BookSt) (ss gs : List Sq) (C D : List (Value × List Int)) (v0 : Value) (x : Sl) (A ol : Nat) (w : World) : Prop :=
  ∃ o' cs : List Int, o'.length = ol ∧ cs.length = x.cs.length ∧ (∀ j, j < A ∨ A + ol ≤ j → cs[j]? = x.cs[j]?) ∧ (∀ j, j < ol → cs[A + j]? = o'[j]?) ∧ SlM w0 c bp (S.put { x with cs := cs }) vc vs F G n b vi vg vw ss gs (C ++ (v0, o') :: D) w
theorem put_same {x : Sl} (hn : (S.sl.map Sl.no).Pairwise (· < ·)) (hx : x ∈ S.sl) : S.put x = S := by
  unfold CaSt.put
  have e : (S.sl.map fun y => if y.no = x.no then x else y) = S.sl := by
    conv => rhs; rw [← List.map_id S.sl]
    refine List.map_congr_left (fun y hy => ?_)
    split
    · next h =>
      have h1 := slabOf_at hn hy
      have h2 := slabOf_at hn hx
      rw [h, h2] at h1
      exact Option.some.inj h1
    · rfl
  rw [e]
theorem PkI.start {C D : List (Value × List Int)} {v0 : Value} {o : List Int} {s : Sq} {x : Sl} {an ol : Nat} {y : Cel} (h : SlI w0 c bp B S vc vs F G n b vi vg vw ss gs ws w) (hC : ws = C ++ (v0, o) :: D) (u : InUse S x an y s.cls s.no s.at' s.gen) (hyl : y.len = o.length) (hys : y.len ≤ clsN S.classes x.cls) (hyo : octOf S x an y.len = o) (hol : o.length = ol) :
    PkI w0 c bp n S vc vs vi vg vw F G b ss gs C D v0 x (an * clsN S.classes x.cls) ol w := by
  have hx := (slabOf_some u.no).1
  have e : S.put { x with cs := x.cs } = S := put_same h.law.sh.nos hx
  refine ⟨o, x.cs, hol, rfl, fun j _ => rfl, fun j hj => ?_, ?_⟩
  · rw [← hyo, octOf_at (by omega)]
  · rw [e, ← hC]
    exact h.mem
theorem PkI.step {C D : List (Value × List Int)} {v0 : Value} {x : Sl} {A ol j gr vcap : Nat} {z z' : Int} (h : PkI w0 c bp n S vc vs vi vg vw F G b ss gs C D v0 x A ol w) (hx : x ∈ S.sl) (hA : A + ol ≤ x.cs.length) (hj : j < ol) (hv : v0 = .slice (some ⟨gr, 0, none⟩) ol vcap) (hz : 0 ≤ z' ∧ z' ≤ 255) :
    PkI w0 c bp n S vc vs vi vg vw F G b ss gs C D v0 x A ol ((w.setCell ⟨x.g, A + j, none⟩ (.int .u8 z')).setCell ⟨gr, j, none⟩ (.int .u8 z')) := by
  obtain ⟨o', cs, h1, h2, h3, h4, h5⟩ := h
  have m1 := h5.toS (i := A + j) (z := z') hx h2 hz
  have hr := (m1.ro (v0, o') (by simp)).1
  have hb := (m1.ro (v0, o') (by simp)).2
  simp only at hr hb
  rw [hv, h1] at hr
  have r1 := wrow_set hr j (.int .u8 z')
  have m2 := m1.toR (o' := o'.set j z') ((Touch.refl (fun k => k = gr) _).setCell (p := ⟨gr, j, none⟩) (Or.inl rfl) (.int .u8 z') |>.mono (fun k hk => by rw [hv, hk]; rfl)) (by
    rw [hv, List.length_set, h1, List.map_set]
    exact r1) (bytes_put hb hz)
  refine ⟨o'.set j z', cs.set (A + j) z', by rw [List.length_set, h1], by rw [List.length_set, h2], fun i hi => ?_, fun i hi => ?_, m2⟩
  · rw [List.getElem?_set_ne (by omega)]
    exact h3 i hi
  · by_cases e : i = j
    · subst e
      rw [List.getElem?_set_self (by omega), List.getElem?_set_self (by omega)]
    · rw [List.getElem?_set_ne (by omega), List.getElem?_set_ne (by omega)]
      exact h4 i hi
theorem SlI.poked {A Bq : List Sq} {C D : List (Value × List Int)} {v0 : Value} {o : List Int} {s : Sq} {x : Sl} {an ol : Nat} {y : Cel} (h : SlI w0 c bp (2 * k) S vc vs F G n b vi vg vw ss gs ws w) (h1 : ss.length ≤ k) (h2 : gs.length ≤ k) (hA : ss = A ++ s :: Bq) (hAl : A.length = C.length) (hC : ws = C ++ (v0, o) :: D) (u : InUse S x an y s.cls s.no s.at' s.gen)
    (hp : (ss.zip (ws.map Prod.snd)).Perm ((s, o) :: (A ++ Bq).zip ((C ++ D).map Prod.snd))) (hyl : y.len = ol) (hys : y.len ≤ clsN S.classes x.cls) (m : PkI w0 c bp n S vc vs vi vg vw F G b ss gs C D v0 x (an * clsN S.classes x.cls) ol w') : SlT w0 c bp (k + 1) vi vg vw w' := by
  obtain ⟨o', cs, e1, e2, e3, e4, e5⟩ := m
  have hx := (slabOf_some u.no).1
  have hk2 : an < x.cl.length := (List.getElem?_eq_some_iff.1 u.cel).1
  have hw := h.law.sh.win hx hk2
  have L := (h.law.perm hp).own u ol (by omega) cs e2 (fun j hj => e3 j (by omega)) o' e1 (by
    refine List.ext_getElem? (fun j => ?_)
    by_cases hj : j < ol
    · rw [List.getElem?_take_of_lt hj, List.getElem?_drop]
      exact e4 j hj
    · rw [List.getElem?_eq_none (by rw [List.length_take]; omega), List.getElem?_eq_none (by omega)])
  have ey : (⟨y.gen, ol, true⟩ : Cel) = y := by
    have := u.used
    cases y
    simp only at this hyl
    subst this
    subst hyl
    rfl
  have ecl : x.cl.set an ⟨y.gen, ol, true⟩ = x.cl := by
    rw [ey]
    refine List.ext_getElem? (fun j => ?_)
    by_cases e : j = an
    · subst e
      rw [List.getElem?_set_self hk2]
      exact u.cel.symm
    · rw [List.getElem?_set_ne (Ne.symm e)]
  have L2 : Law (S.put { x with cs := cs }) ((s, o') :: (A ++ Bq).zip ((C ++ D).map Prod.snd)) gs (2 * k) := by
    have := L
    rw [ecl] at this
    exact this
  have l1 := congrArg List.length hC
  have l3 := h.wl
  refine SlT.of e5 ((tot_put (z := { x with cs := cs }) S h.law.sh.nos hx rfl rfl).trans h.tot) (by simp only [List.length_append, List.length_cons] at l1 ⊢; omega) ?_ (by omega) (by omega)
  rw [hA, List.map_append, List.map_cons, zip_mid (by rw [List.length_map]; exact hAl)]
  refine (L2.mono (by omega)).perm ?_
  rw [List.map_append, List.zip_append (by rw [List.length_map]; exact hAl)]
  exact List.perm_middle.symm
end

end Go.Proofs.Ytiaedonhbafpjaa
