/-
  A slice of pairs of integers that came in. No conditions.
-/
import Derived.Test.YtfolidedcejafaaFrame
import Derived.Test.YtfolidedcejafaaFair
import Derived.Deep.Slices
import Derived.Laws.IdiomArrays
namespace Go.Proofs.Ytfolidedcejafaa
open Go.ChangeShapes Go.WideShapes Go.ChangeAt Go.RowKit Go.Deep

variable {H : Type} {enc : TypeId × Value → H} {P : Program} {W : World}

theorem trod_two {base : Nat} {spare : Nat → Bool} {held : Bool} {t e : TypeId} {fuel : Nat} {c0 c1 : Value} {x : DataW H × List MemPlace} (ht : P.underlying t = some (.array 2 e)) (hce : P.cellsOf e = 1)
    (h : DataW.trod enc P W base spare held fuel t [c0, c1] = some x) :
    ∃ y0 y1 n, DataW.trod enc P W base spare held n e [c0] = some y0 ∧ DataW.trod enc P W base spare held n e [c1] = some y1 := by
  cases fuel with
  | zero => simp [DataW.trod] at h
  | succ n =>
    unfold DataW.trod at h
    rw [ht] at h
    have r2 : List.range 2 = [0, 1] := rfl
    simp [r2, hce] at h
    obtain ⟨_, h⟩ := h
    cases h0 : DataW.trod enc P W base spare held n e [c0] with
    | none => simp [h0] at h
    | some y0 =>
      cases h1 : DataW.trod enc P W base spare held n e [c1] with
      | none => simp [h0, h1] at h
      | some y1 => exact ⟨y0, y1, n, h0, h1⟩

theorem openTwo {t e q : TypeId} {base : Nat} {v : Value} {d : DataW H} {p : List MemPlace} (ht : P.underlying t = some (.slice e)) (he : P.underlying e = some (.array 2 q)) (hq : P.underlying q = some (.int .i64)) (ce : P.cellsOf e = 2) (cq : P.cellsOf q = 1) (be : P.bytesOf e = 16)
    (hv : Value.okWide P W .any base t v) (h : DataW.Trod enc P W 0 (fun _ => true) true t v d p)
    {ts : List TypeId} {ds : List (DataW H)} {j : Nat} (hsz : (DataW.weightsEach P ts ds).all (· ≤ reachBytes) = true) (hts : ts[j]? = some t) (hds : ds[j]? = some d) :
    ∃ n, ∃ es : Nat → Int × Int, ∃ a cap, v = .slice a n cap ∧ n ≤ 8796093022208 ∧ ∀ k, k < n → ∃ b o, a = some ⟨b, o, none⟩ ∧ W.cell? ⟨b, o + k * 2, none⟩ = some (.int .i64 (es k).1) ∧ W.cell? ⟨b, o + k * 2 + 1, none⟩ = some (.int .i64 (es k).2) := by
  obtain ⟨a, len, cap, rfl⟩ := okWide_slice ht hv
  obtain ⟨fuel, hf⟩ := h
  rcases open_slice ht hf with ⟨hcs, hx⟩ | ⟨x, l, c, m, n, D, Pl, hcs, hb, hl, hm, hmm, hx, hel⟩
  · simp [Value.cells] at hcs
    obtain ⟨rfl, rfl, rfl⟩ := hcs
    exact ⟨0, fun _ => (0, 0), none, 0, rfl, by omega, fun k hk => by omega⟩
  · simp [Value.cells] at hcs
    obtain ⟨rfl, rfl, rfl⟩ := hcs
    simp only [if_true] at hmm
    subst hmm
    have each : ∀ i, i < m → ∃ y : Int × Int, W.cell? (x.add (i * 2)) = some (.int .i64 y.1) ∧ W.cell? (x.add (i * 2 + 1)) = some (.int .i64 y.2) := by
      intro i hi
      obtain ⟨cs', h1, h2⟩ := hel i hi
      rw [ce] at h1
      obtain ⟨_, hlen, hat⟩ := World.cells?_some h1
      match cs', hlen with
      | [c0, c1], _ =>
        obtain ⟨y0, y1, n', t0, t1⟩ := trod_two he cq h2
        obtain ⟨a0, e0, _, w0⟩ := DataW.trod_int hq t0
        obtain ⟨a1, e1, _, w1⟩ := DataW.trod_int hq t1
        simp only [List.cons.injEq, and_true] at e0 e1
        subst e0 e1
        have k0 := hat 0 (by omega)
        have k1 := hat 1 (by omega)
        rw [add_add] at k0 k1
        exact ⟨(a0, a1), by simpa using k0, by simpa using k1⟩
    obtain ⟨es, hes⟩ := choose_lt (α := Int × Int) (p := fun i y => W.cell? (x.add (i * 2)) = some (.int .i64 y.1) ∧ W.cell? (x.add (i * 2 + 1)) = some (.int .i64 y.2)) each
    refine ⟨len, es, some x, m, rfl, ?_, fun k hk => ?_⟩
    · have hd := congrArg Prod.fst hx
      simp only at hd
      have hr := sized_slice hsz hts (hd ▸ hds) ht
      rw [be] at hr
      simp only [List.length_map, List.length_range, reachBytes] at hr
      omega
    · obtain ⟨b, off, spot⟩ := x
      have hspot : spot = none := by simpa [Addr.add] using World.cell?_spot (hes 0 (by omega)).1
      subst hspot
      have e1 : ∀ j, (⟨b, off, none⟩ : Addr).add j = ⟨b, off + j, none⟩ := fun j => by unfold Addr.add; split <;> simp_all
      refine ⟨b, off, rfl, ?_⟩
      have := hes k (by omega)
      rw [e1, e1] at this
      exact this

end Go.Proofs.Ytfolidedcejafaa
