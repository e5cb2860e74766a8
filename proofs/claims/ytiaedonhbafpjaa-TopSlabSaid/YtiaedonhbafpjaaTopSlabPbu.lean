/-
  What holds between the operations of the statement, and how each of them turns it. No conditions but bounds.
-/
import Derived.Test.YtiaedonhbafpjaaTopSlabPbt
namespace Go.Proofs.Ytiaedonhbafpjaa
open Go.RowKit
set_option linter.unusedVariables false

theorem split_at {α : Type} {l : List α} {i : Nat} (h : i < l.length) : ∃ A s B, l = A ++ s :: B ∧ A.length = i ∧ l[i]? = some s := by
  refine ⟨l.take i, l[i], l.drop (i + 1), ?_, by rw [List.length_take]; omega, List.getElem?_eq_getElem h⟩
  rw [← List.drop_eq_getElem_cons h, List.take_append_drop]
theorem zip_mid {α β : Type} {A B : List α} {C D : List β} {s : α} {o : β} (h : A.length = C.length) : (A ++ s :: B).zip (C ++ o :: D) = A.zip C ++ (s, o) :: B.zip D := by
  rw [List.zip_append h]
  rfl
structure SlI (w0 : World) (c bp B : Nat) (S : CaSt) (vc vs : Value) (F G : Nat → Prop) (n : Nat) (b : BookSt) (vi vg vw : Value) (ss gs : List Sq) (ws : List (Value × List Int)) (w : World) : Prop where
  mem : SlM w0 c bp S vc vs F G n b vi vg vw ss gs ws w
  tot : S.tot = n
  wl : ws.length = ss.length
  law : Law S (ss.zip (ws.map Prod.snd)) gs B
def SlT (w0 : World) (c bp k : Nat) (vi vg vw : Value) (w : World) : Prop := ∃ S vc vs F G n b ss gs ws, SlI w0 c bp (2 * k) S vc vs F G n b vi vg vw ss gs ws w ∧ ss.length ≤ k ∧ gs.length ≤ k
section
variable {w0 w w' : World} {c bp n B k : Nat} {S : CaSt} {vc vs vi vg vw : Value} {F G : Nat → Prop} {b : BookSt} {ss gs : List Sq} {ws : List (Value × List Int)}
theorem SlI.below (h : SlI w0 c bp B S vc vs F G n b vi vg vw ss gs ws w) (hb : Below w.heap.size w w') : SlI w0 c bp B S vc vs F G n b vi vg vw ss gs ws w' := ⟨h.mem.below hb, h.tot, h.wl, h.law⟩
theorem SlI.next (h : SlI w0 c bp (2 * k) S vc vs F G n b vi vg vw ss gs ws w) (h1 : ss.length ≤ k) (h2 : gs.length ≤ k) : SlT w0 c bp (k + 1) vi vg vw w := ⟨S, vc, vs, F, G, n, b, ss, gs, ws, ⟨h.mem, h.tot, h.wl, h.law.mono (by omega)⟩, by omega, by omega⟩
theorem SlI.ol (h : SlI w0 c bp B S vc vs F G n b vi vg vw ss gs ws w) : (ws.map Prod.snd).length = ss.length := by rw [List.length_map, h.wl]
/-- A slot of the row, with what is known of it. -/
theorem SlI.at (h : SlI w0 c bp B S vc vs F G n b vi vg vw ss gs ws w) {i : Nat} (hi : i < ss.length) :
    ∃ A s Bq C v o D x an y, ss = A ++ s :: Bq ∧ A.length = i ∧ ws = C ++ (v, o) :: D ∧ C.length = i ∧ ss[i]? = some s ∧ ws[i]? = some (v, o) ∧ InUse S x an y s.cls s.no s.at' s.gen ∧ valE S s.cls s.no s.at' s.gen = 0 ∧ y.len = o.length ∧ y.len ≤ clsN S.classes x.cls ∧ octOf S x an y.len = o ∧
      (ss.zip (ws.map Prod.snd)).Perm ((s, o) :: (A ++ Bq).zip ((C ++ D).map Prod.snd)) := by
  obtain ⟨A, s, Bq, hA, hAl, hs⟩ := split_at hi
  obtain ⟨C, ⟨v, o⟩, D, hC, hCl, hw⟩ := split_at (l := ws) (i := i) (by rw [h.wl]; exact hi)
  have hz : ss.zip (ws.map Prod.snd) = A.zip (C.map Prod.snd) ++ (s, o) :: Bq.zip (D.map Prod.snd) := by
    rw [hA, hC, List.map_append, List.map_cons]
    exact zip_mid (by rw [List.length_map]; omega)
  obtain ⟨x, an, y, u, h1, h2, h3, h4⟩ := h.law.hold (s, o) (by rw [hz]; simp)
  refine ⟨A, s, Bq, C, v, o, D, x, an, y, hA, hAl, hC, hCl, hs, hw, u, u.val h.mem.cb.cm h.law.opn h1, h2, h3, h4, ?_⟩
  rw [hz, List.map_append, List.zip_append (by rw [List.length_map]; omega)]
  exact List.perm_middle
/-- The cells of a slot of a row. -/
theorem slot_row {v : Value} {l : List Sq} {i : Nat} {s : Sq} (h : w.ownsRow 0 37 4 v l.length (l.flatMap Sq.cells)) (hs : l[i]? = some s) :
    ∃ g cap, v = .slice (some ⟨g, 0, none⟩) l.length cap ∧ w.cell? ⟨g, i * 4, none⟩ = some (.int .i64 s.cls) ∧ w.cell? ⟨g, i * 4 + 1, none⟩ = some (.int .i64 s.no) ∧ w.cell? ⟨g, i * 4 + 2, none⟩ = some (.int .i64 s.at') ∧ w.cell? ⟨g, i * 4 + 3, none⟩ = some (.int .i64 s.gen) ∧ ∀ j, w.frozen? ⟨g, j, none⟩ = false := by
  have hi : i < l.length := (List.getElem?_eq_some_iff.1 hs).1
  obtain ⟨g, cap, rfl⟩ := row_shape h (by omega)
  have key : ∀ r (u : Value), r < 4 → s.cells[r]? = some u → w.cell? ⟨g, i * 4 + r, none⟩ = some u := fun r u hr hu => by
    obtain ⟨g', hg, hc, _⟩ := wrow_cell h (j := i * 4 + r) (u := u) (by rw [sq_get l i r s hs hr]; exact hu)
    cases hg
    exact hc
  obtain ⟨cur, hc⟩ := row_block h (k := g) (by simp [Value.ownBlock])
  exact ⟨g, cap, rfl, key 0 _ (by decide) rfl, key 1 _ (by decide) rfl, key 2 _ (by decide) rfl, key 3 _ (by decide) rfl, fun j => free_of hc _⟩
/-- A row of octets of the row of rows. -/
theorem SlM.octs (h : SlM w0 c bp S vc vs F G n b vi vg vw ss gs ws w) {i : Nat} {v : Value} {o : List Int} (hw : ws[i]? = some (v, o)) :
    ∃ g cap va vcap, vw = .slice (some ⟨g, 0, none⟩) ws.length cap ∧ v = .slice va o.length vcap ∧ o.length ≤ vcap ∧ w.cell? ⟨g, i, none⟩ = some (.slice va o.length vcap) ∧ w.frozen? ⟨g, i, none⟩ = false := by
  have hi : i < ws.length := (List.getElem?_eq_some_iff.1 hw).1
  obtain ⟨g, cap, hv⟩ := row_shape h.rw (by omega)
  have hr := h.rw
  rw [hv] at hr
  obtain ⟨g', hg, hc, hf⟩ := wrow_cell hr (j := i) (u := v) (by rw [List.getElem?_map, hw]; rfl)
  cases hg
  have ho := (h.ro (v, o) (List.mem_of_getElem? hw)).1
  obtain ⟨va, vcap, hvv⟩ := wrow_sh ho
  simp only at hvv
  refine ⟨g, cap, va, vcap, hv, hvv, ?_, by rw [← hvv]; exact hc, hf⟩
  rcases ho.2 with ⟨h1, h2⟩ | ⟨g2, cap2, cur2, h1, _, _, h2, _⟩
  · simp only at h1
    rw [hvv] at h1
    simp only [Value.slice.injEq] at h1
    omega
  · simp only at h1
    rw [hvv] at h1
    simp only [Value.slice.injEq] at h1
    obtain ⟨_, _, rfl⟩ := h1
    exact h2

/-! Next and Alloc agree. -/
theorem next_is {S S1 : CaSt} {cls n n1 : Nat} (hin : AlIn S cls n S1 n1) {x : Sl} {i : Nat} {y : Cel} (hfo : freeOf S1.sl cls = some (x, i, y)) {x0 : Sl} {i0 : Nat} {y0 : Cel} (h0 : freeOf S.sl cls = some (x0, i0, y0)) : x0 = x ∧ i0 = i ∧ y0 = y := by
  rcases hin with ⟨rfl, _⟩ | ⟨h, _⟩
  · rw [hfo] at h0
    cases h0
    exact ⟨rfl, rfl, rfl⟩
  · rw [h] at h0
    cases h0
theorem AlIn.tot {S S1 : CaSt} {cls n n1 : Nat} (hin : AlIn S cls n S1 n1) (h : S.tot = n) : S1.tot = n1 := by
  rcases hin with ⟨rfl, rfl⟩ | ⟨_, rfl, p, g, q, rfl⟩
  · exact h
  · rw [tot_add, h]
theorem AlS.tot {S : CaSt} {x : Sl} {i : Nat} {y : Cel} {k B : Nat} (sh : Sh S B) (hx : x ∈ S.sl) : (AlS S x i y k).tot = S.tot := tot_put S sh.nos hx rfl rfl
end

theorem bytesIn_oct {w : World} {p : Option Addr} {n c : Nat} {zs : List Int} (h : Reads w .u8 (.slice p n c) zs) (hl : zs.length = n) : Lib.BytesIn w p n zs := by
  obtain ⟨a, cap, hv, _, hc⟩ := h
  simp only [Value.slice.injEq] at hv
  obtain ⟨rfl, _, _⟩ := hv
  intro hn
  obtain ⟨b, o, hp, hcell⟩ := hc (fun e => by rw [e] at hl; simp at hl; omega)
  exact ⟨b, o, hp, fun i hi => hcell i (by omega)⟩
theorem equal_oct {w : World} {p1 p2 : Option Addr} {n m c d : Nat} {zs : List Int} (h1 : Reads w .u8 (.slice p1 n c) zs) (hl : zs.length = n) (h2 : Reads w .u8 (.slice p2 m d) zs) (hm : zs.length = m) :
    Calls Try.prog 10 #[.slice p1 n c, .slice p2 m d] w (fun e w' => e = .returned (.bool true) ∧ w' = w) := by
  refine (Go.Proofs.Try.bytes_Equal_all p1 p2 n c m d zs zs w hl hm (bytesIn_oct h1 hl) (bytesIn_oct h2 hm)).mono ?_
  rintro e w' ⟨rfl, rfl⟩
  exact ⟨by simp, rfl⟩
/-- Copy of a slot in use. -/
theorem copy_use {w : World} {F : Nat → Prop} {c bp : Nat} {S : CaSt} {vc vs : Value} (m : CaMem w F c bp S vc vs) {x : Sl} {an : Nat} {y : Cel} {s : Sq} {o : List Int} (u : InUse S x an y s.cls s.no s.at' s.gen) (hE : valE S s.cls s.no s.at' s.gen = 0) (ho : octOf S x an y.len = o) (hl : o.length ≤ 4096) :
    Calls Try.prog 9 #[.pointer (some ⟨c, 0, none⟩), .agg #[.int .i64 s.cls, .int .i64 s.no, .int .i64 s.at', .int .i64 s.gen]] w (fun e w' => ∃ va vcap, e = .returned (.tuple #[.slice va o.length vcap, .int .i64 0]) ∧ w'.ownsRow w.heap.size 5 1 (.slice va o.length vcap) o.length (o.map (Value.int .u8)) ∧ Reads w' .u8 (.slice va o.length vcap) o ∧ Below w.heap.size w w') := by
  refine (copyS_ok m u hE).mono ?_
  rintro e w' ⟨v, rfl, hr, hb⟩
  have e1 : (x.cs.drop (an * clsN S.classes x.cls)).take y.len = o := ho
  rw [e1] at hr
  obtain ⟨va, vcap, rfl⟩ := wrow_sh hr
  exact ⟨va, vcap, rfl, hr, Reads.own (k := .u8) (zs := o) (row_low hr (Nat.zero_le _)) (by omega), hb⟩

end Go.Proofs.Ytiaedonhbafpjaa
