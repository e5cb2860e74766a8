/-
  What the statement keeps in memory: the cache with its book, the rows of slots, of slots that are gone, of octets. No conditions.
-/
import Derived.Test.YtiaedonhbafpjaaTopSlabPbq
import Derived.Test.YtiaedonhbafpjaaTopSlabPbr
import Derived.Test.YtiaedonhbafpjaaTopSlabPbs
import Derived.Deep.Upon
namespace Go.Proofs.Ytiaedonhbafpjaa
open Go.RowKit
set_option linter.unusedVariables false

theorem blk_apart {w : World} {B B' n n' size size' : Nat} {e e' : TypeId} {v v' : Value} {xs xs' : List Value} (h : w.ownsRow B e size v n xs) (h' : w.ownsRow B' e' size' v' n' xs') (hne : e ≠ e') {k : Nat} (hk : v.ownBlock = some k) : v'.ownBlock ≠ some k := fun hk' => by
  obtain ⟨c1, h1⟩ := row_block h hk
  obtain ⟨c2, h2⟩ := row_block h' hk'
  rw [h1] at h2
  simp only [Option.some.injEq, Obj.cells.injEq] at h2
  exact hne h2.2.1

structure SlM (w0 : World) (c bp : Nat) (S : CaSt) (vc vs : Value) (F G : Nat → Prop) (n : Nat) (b : BookSt) (vi vg vw : Value) (ss gs : List Sq) (ws : List (Value × List Int)) (w : World) : Prop where
  bel : Below w0.heap.size w0 w
  cb : CB w c bp S vc vs F G 10000000 n b
  fb : ∀ k, F k → w0.heap.size ≤ k
  gb : ∀ k, G k → w0.heap.size ≤ k
  ri : w.ownsRow 0 37 4 vi ss.length (ss.flatMap Sq.cells)
  rg : w.ownsRow 0 37 4 vg gs.length (gs.flatMap Sq.cells)
  rw : w.ownsRow 0 33 1 vw ws.length (ws.map Prod.fst)
  ro : ∀ e ∈ ws, w.ownsRow 0 5 1 e.1 e.2.length (e.2.map (Value.int .u8)) ∧ bytes e.2
  sep : ws.Pairwise fun e e' => ∀ k, e.1.ownBlock = some k → e'.1.ownBlock ≠ some k
  di : ∀ k, vi.ownBlock = some k → w0.heap.size ≤ k ∧ ¬ F k ∧ ¬ G k ∧ vg.ownBlock ≠ some k
  dg : ∀ k, vg.ownBlock = some k → w0.heap.size ≤ k ∧ ¬ F k ∧ ¬ G k
  dw : ∀ k, vw.ownBlock = some k → w0.heap.size ≤ k ∧ ¬ F k ∧ ¬ G k
  dr : ∀ e ∈ ws, ∀ k, e.1.ownBlock = some k → w0.heap.size ≤ k ∧ ¬ F k ∧ ¬ G k
section
variable {w0 w w' : World} {c bp n : Nat} {S : CaSt} {vc vs vi vg vw : Value} {F G : Nat → Prop} {b : BookSt} {ss gs : List Sq} {ws : List (Value × List Int)}
theorem SlM.below (h : SlM w0 c bp S vc vs F G n b vi vg vw ss gs ws w) (hb : Below w.heap.size w w') : SlM w0 c bp S vc vs F G n b vi vg vw ss gs ws w' :=
  ⟨h.bel.trans (hb.mono h.bel.size), h.cb.below hb, h.fb, h.gb, row_kept h.ri hb, row_kept h.rg hb, row_kept h.rw hb, fun e he => ⟨row_kept (h.ro e he).1 hb, (h.ro e he).2⟩, h.sep, h.di, h.dg, h.dw, h.dr⟩
/-- The cache turned. -/
theorem SlM.cache {S' : CaSt} {vs' : Value} {F' G' : Nat → Prop} {n' : Nat} {b' : BookSt} (h : SlM w0 c bp S vc vs F G n b vi vg vw ss gs ws w) (hc : CB w' c bp S' vc vs' F' G' 10000000 n' b') (hF : ∀ k, F' k → F k ∨ w.heap.size ≤ k) (hG : ∀ k, G' k → G k ∨ w.heap.size ≤ k) (ht : Touch (fun k => F k ∨ G k) w w') :
    SlM w0 c bp S' vc vs' F' G' n' b' vi vg vw ss gs ws w' := by
  have hs := h.bel.size
  have fr : ∀ k, k < w.heap.size → ¬ F k → ¬ G k → ¬ F' k ∧ ¬ G' k := fun k hk h1 h2 => ⟨fun e => by rcases hF k e with e | e; exact h1 e; omega, fun e => by rcases hG k e with e | e; exact h2 e; omega⟩
  have keep : ∀ {B n size : Nat} {e : TypeId} {v : Value} {xs : List Value}, w.ownsRow B e size v n xs → (∀ k, v.ownBlock = some k → ¬ F k ∧ ¬ G k) → w'.ownsRow B e size v n xs := fun hr hd => ownsRow_same hr (fun k hk => ht.block k (hr.lt k hk).2 (fun e => by have := hd k hk; rcases e with e | e; exact this.1 e; exact this.2 e))
  refine ⟨h.bel.trans (ht.below hs (fun k hk => by rcases hk with e | e; exact h.fb k e; exact h.gb k e)), hc, fun k hk => ?_, fun k hk => ?_, keep h.ri (fun k hk => ⟨(h.di k hk).2.1, (h.di k hk).2.2.1⟩), keep h.rg (fun k hk => (h.dg k hk).2), keep h.rw (fun k hk => (h.dw k hk).2), fun e he => ⟨keep (h.ro e he).1 (fun k hk => (h.dr e he k hk).2), (h.ro e he).2⟩, h.sep, fun k hk => ?_, fun k hk => ?_, fun k hk => ?_, fun e he k hk => ?_⟩
  · rcases hF k hk with e | e
    · exact h.fb k e
    · omega
  · rcases hG k hk with e | e
    · exact h.gb k e
    · omega
  · have d := h.di k hk
    have f := fr k (h.ri.lt k hk).2 d.2.1 d.2.2.1
    exact ⟨d.1, f.1, f.2, d.2.2.2⟩
  · have d := h.dg k hk
    have f := fr k (h.rg.lt k hk).2 d.2.1 d.2.2
    exact ⟨d.1, f.1, f.2⟩
  · have d := h.dw k hk
    have f := fr k (h.rw.lt k hk).2 d.2.1 d.2.2
    exact ⟨d.1, f.1, f.2⟩
  · have d := h.dr e he k hk
    have f := fr k ((h.ro e he).1.lt k hk).2 d.2.1 d.2.2
    exact ⟨d.1, f.1, f.2⟩
/-- What a write into one of the rows leaves of the cache. -/
theorem SlM.far {Z : Nat → Prop} (h : SlM w0 c bp S vc vs F G n b vi vg vw ss gs ws w) (ht : Touch Z w w') (hZ : ∀ k, Z k → w0.heap.size ≤ k ∧ ¬ F k ∧ ¬ G k) : Below w0.heap.size w0 w' ∧ CB w' c bp S vc vs F G 10000000 n b :=
  ⟨h.bel.trans (ht.below h.bel.size (fun k hk => (hZ k hk).1)), h.cb.touch ht (fun k hk => (hZ k hk).2.1) (fun k hk => (hZ k hk).2.2)⟩
theorem row_far {Z : Nat → Prop} {B n size : Nat} {e : TypeId} {v : Value} {xs : List Value} (hr : w.ownsRow B e size v n xs) (ht : Touch Z w w') (hd : ∀ k, v.ownBlock = some k → ¬ Z k) : w'.ownsRow B e size v n xs := ownsRow_same hr (fun k hk => ht.block k (hr.lt k hk).2 (hd k hk))
/-- The row of slots is another one. -/
theorem SlM.toI {vi' : Value} {ss' : List Sq} (h : SlM w0 c bp S vc vs F G n b vi vg vw ss gs ws w) (ht : Touch (fun k => vi.ownBlock = some k) w w') (hr : w'.ownsRow 0 37 4 vi' ss'.length (ss'.flatMap Sq.cells)) (hp : ∀ k, vi'.ownBlock = some k → vi.ownBlock = some k ∨ w.heap.size ≤ k) :
    SlM w0 c bp S vc vs F G n b vi' vg vw ss' gs ws w' := by
  obtain ⟨h1, h2⟩ := h.far ht (fun k hk => ⟨(h.di k hk).1, (h.di k hk).2.1, (h.di k hk).2.2.1⟩)
  refine ⟨h1, h2, h.fb, h.gb, hr, row_far h.rg ht (fun k hk e => (h.di k e).2.2.2 hk), row_far h.rw ht (fun k hk e => blk_apart h.ri h.rw (by decide) e hk), fun e he => ⟨row_far (h.ro e he).1 ht (fun k hk e' => blk_apart h.ri (h.ro e he).1 (by decide) e' hk), (h.ro e he).2⟩, h.sep, fun k hk => ?_, h.dg, h.dw, h.dr⟩
  rcases hp k hk with e | e
  · exact h.di k e
  · exact ⟨Nat.le_trans h.bel.size e, fun hf => by have := h.cb.fl k hf; omega, fun hg => by have := h.cb.bk.gl k hg; omega, fun hg => by have := (h.rg.lt k hg).2; omega⟩
theorem SlM.toG {vg' : Value} {gs' : List Sq} (h : SlM w0 c bp S vc vs F G n b vi vg vw ss gs ws w) (ht : Touch (fun k => vg.ownBlock = some k) w w') (hr : w'.ownsRow 0 37 4 vg' gs'.length (gs'.flatMap Sq.cells)) (hp : ∀ k, vg'.ownBlock = some k → vg.ownBlock = some k ∨ w.heap.size ≤ k) :
    SlM w0 c bp S vc vs F G n b vi vg' vw ss gs' ws w' := by
  obtain ⟨h1, h2⟩ := h.far ht (fun k hk => h.dg k hk)
  refine ⟨h1, h2, h.fb, h.gb, row_far h.ri ht (fun k hk e => (h.di k hk).2.2.2 e), hr, row_far h.rw ht (fun k hk e => blk_apart h.rg h.rw (by decide) e hk), fun e he => ⟨row_far (h.ro e he).1 ht (fun k hk e' => blk_apart h.rg (h.ro e he).1 (by decide) e' hk), (h.ro e he).2⟩, h.sep, fun k hk => ?_, fun k hk => ?_, h.dw, h.dr⟩
  · have d := h.di k hk
    refine ⟨d.1, d.2.1, d.2.2.1, fun e => ?_⟩
    rcases hp k e with e | e
    · exact d.2.2.2 e
    · have := (h.ri.lt k hk).2
      omega
  · rcases hp k hk with e | e
    · exact h.dg k e
    · exact ⟨Nat.le_trans h.bel.size e, fun hf => by have := h.cb.fl k hf; omega, fun hg => by have := h.cb.bk.gl k hg; omega⟩
/-- The row of rows is another one; each of its rows lies as it lay, or is new. -/
theorem SlM.toW {vw' : Value} {ws' : List (Value × List Int)} (h : SlM w0 c bp S vc vs F G n b vi vg vw ss gs ws w) (ht : Touch (fun k => vw.ownBlock = some k) w w') (hr : w'.ownsRow 0 33 1 vw' ws'.length (ws'.map Prod.fst)) (hp : ∀ k, vw'.ownBlock = some k → vw.ownBlock = some k ∨ w.heap.size ≤ k)
    (hrows : ∀ e ∈ ws', e ∈ ws ∨ (w.ownsRow 0 5 1 e.1 e.2.length (e.2.map (Value.int .u8)) ∧ bytes e.2 ∧ ∀ k, e.1.ownBlock = some k → w0.heap.size ≤ k ∧ ¬ F k ∧ ¬ G k)) (hsep : ws'.Pairwise fun e e' => ∀ k, e.1.ownBlock = some k → e'.1.ownBlock ≠ some k) :
    SlM w0 c bp S vc vs F G n b vi vg vw' ss gs ws' w' := by
  obtain ⟨h1, h2⟩ := h.far ht (fun k hk => h.dw k hk)
  refine ⟨h1, h2, h.fb, h.gb, row_far h.ri ht (fun k hk e => blk_apart h.ri h.rw (by decide) hk e), row_far h.rg ht (fun k hk e => blk_apart h.rg h.rw (by decide) hk e), hr, fun e he => ?_, hsep, h.di, h.dg, fun k hk => ?_, fun e he k hk => ?_⟩
  · rcases hrows e he with e1 | ⟨r1, r2, r3⟩
    · exact ⟨row_far (h.ro e e1).1 ht (fun k hk e' => blk_apart h.rw (h.ro e e1).1 (by decide) e' hk), (h.ro e e1).2⟩
    · exact ⟨row_far r1 ht (fun k hk e' => blk_apart h.rw r1 (by decide) e' hk), r2⟩
  · rcases hp k hk with e | e
    · exact h.dw k e
    · exact ⟨Nat.le_trans h.bel.size e, fun hf => by have := h.cb.fl k hf; omega, fun hg => by have := h.cb.bk.gl k hg; omega⟩
  · rcases hrows e he with e1 | ⟨r1, r2, r3⟩
    · exact h.dr e e1 k hk
    · exact r3 k hk
end

end Go.Proofs.Ytiaedonhbafpjaa
