/-
  Set of a pool: what lies in memory between its rounds. No conditions but bounds.
-/
import Derived.Test.YtbndknbjjdoanaaTopSharedPbj
import Derived.Test.YtbndknbjjdoanaaTopSharedPbk
namespace Go.Proofs.Ytbndknbjjdoanaa
open Go.RowKit
set_option linter.unusedVariables false

/-- Between two rounds of the writing, in memory; wE: the world as the loop began; n: how many parts; v8: the octets' copy; v9: the parts' copy; v10: what is written. -/
structure SetM (wE : World) (h bp mb ms : Nat) (sn n : Nat) (S : List Nat) (D2 : DataW Unit) (F G : Nat → Prop) (b : BookSt) (nn mo : Nat) (WL : List Wr) (v8 v9 v10 : Value) (E9 E10 : Nat) (Q : PoolSt) (m : List Pt) (D1 : DataW Unit) (F' : Nat → Prop) (wx : World) : Prop where
  pb : PB wx h bp Q mb ms Q.bl.length Q.st.length D1 D2 F' G b nn
  fe : ∀ j, F' j → F j ∨ wE.heap.size ≤ j
  ff : ∀ j, F j → F' j
  rl : wx.ownsRow E9 75 3 v9 n (ptCells m)
  rw : wx.ownsRow E10 75 3 v10 n (wrCells WL)
  ro : ∀ j, v8.ownBlock = some j → wx.heap[j]? = wE.heap[j]?
  km : OwnM wx mo sn S
  tch : Touch (fun j => F j ∨ v9.ownBlock = some j) wE wx
  sep : ∀ j, (v8.ownBlock = some j ∨ v9.ownBlock = some j ∨ v10.ownBlock = some j ∨ j = mo) → j < wE.heap.size ∧ ¬ F j ∧ ¬ G j
  dist : ∀ j, v9.ownBlock = some j → v8.ownBlock ≠ some j ∧ v10.ownBlock ≠ some j ∧ j ≠ mo
section
variable {wE : World} {h bp mb ms : Nat} {sn n : Nat} {S : List Nat} {D2 : DataW Unit} {F G : Nat → Prop} {b : BookSt} {nn mo : Nat} {WL : List Wr} {v8 v9 v10 : Value} {E9 E10 : Nat} {Q : PoolSt} {m : List Pt} {D1 : DataW Unit} {F' : Nat → Prop} {wx : World}
theorem SetM.notF (s : SetM wE h bp mb ms sn n S D2 F G b nn mo WL v8 v9 v10 E9 E10 Q m D1 F' wx) (j : Nat) (hj : v8.ownBlock = some j ∨ v9.ownBlock = some j ∨ v10.ownBlock = some j ∨ j = mo) : ¬ F' j := fun e => by
  have h1 := s.sep j hj
  rcases s.fe j e with h2 | h2
  · exact h1.2.1 h2
  · omega
/-- All of it lies in blocks that stay. -/
theorem SetM.far (s : SetM wE h bp mb ms sn n S D2 F G b nn mo WL v8 v9 v10 E9 E10 Q m D1 F' wx) {w' : World} (hz : ∀ k, F' k ∨ G k ∨ v8.ownBlock = some k ∨ v9.ownBlock = some k ∨ v10.ownBlock = some k ∨ k = mo → k < wx.heap.size → w'.heap[k]? = wx.heap[k]?) (hs : wx.heap.size ≤ w'.heap.size) (ht : Touch (fun j => F j ∨ v9.ownBlock = some j) wE w') : SetM wE h bp mb ms sn n S D2 F G b nn mo WL v8 v9 v10 E9 E10 Q m D1 F' w' :=
  ⟨s.pb.far (fun k hk hlt => hz k (by rcases hk with hk | hk; exact Or.inl hk; exact Or.inr (Or.inl hk)) hlt) hs, s.fe, s.ff, ownsRow_same s.rl (fun j hj => hz j (by simp [hj]) (s.rl.lt j hj).2), ownsRow_same s.rw (fun j hj => hz j (by simp [hj]) (s.rw.lt j hj).2),
    fun j hj => (hz j (by simp [hj]) (Nat.lt_of_lt_of_le (s.sep j (Or.inl hj)).1 s.tch.size)).trans (s.ro j hj), s.km.same (hz mo (by simp) s.km.lt), ht, s.sep, s.dist⟩
theorem SetM.below (s : SetM wE h bp mb ms sn n S D2 F G b nn mo WL v8 v9 v10 E9 E10 Q m D1 F' wx) {w' : World} (hb : Below wx.heap.size wx w') : SetM wE h bp mb ms sn n S D2 F G b nn mo WL v8 v9 v10 E9 E10 Q m D1 F' w' :=
  s.far (fun k _ hlt => hb.block k hlt) hb.size (s.tch.then (Touch.of_below hb))
/-- A cell of a block apart. -/
theorem SetM.poke (s : SetM wE h bp mb ms sn n S D2 F G b nn mo WL v8 v9 v10 E9 E10 Q m D1 F' wx) {x o : Nat} (h1 : wE.heap.size ≤ x) (h2 : ¬ F' x) (h3 : ¬ G x) (u : Value) : SetM wE h bp mb ms sn n S D2 F G b nn mo WL v8 v9 v10 E9 E10 Q m D1 F' (wx.setCell ⟨x, o, none⟩ u) :=
  s.far (fun k hk hlt => Below.heap_setCell _ _ _ _ (fun e => by
    have e : x = k := e.symm
    subst e
    rcases hk with hk | hk | hk | hk | hk | hk
    · exact h2 hk
    · exact h3 hk
    · have := (s.sep x (Or.inl hk)).1; omega
    · have := (s.sep x (Or.inr (Or.inl hk))).1; omega
    · have := (s.sep x (Or.inr (Or.inr (Or.inl hk)))).1; omega
    · have := (s.sep x (Or.inr (Or.inr (Or.inr hk)))).1; omega)) (by simp [World.setCell]) (s.tch.setCell (p := ⟨x, o, none⟩) (Or.inr h1) u)
/-- A block of the pool is written. -/
theorem SetM.blk (s : SetM wE h bp mb ms sn n S D2 F G b nn mo WL v8 v9 v10 E9 E10 Q m D1 F' wx) {bb : Nat} {y : Bk} (hl : lookN Q.bl (bb : Int) = some y) {off : Nat} {xs : List Int} (hfit : off + xs.length ≤ y.cs.length) (hxs : bytes xs) {w3 : World} (h3 : byteRow w3 y.g (splice y.cs off xs)) (ht : Touch (fun k => k = y.g) wx w3) :
    SetM wE h bp mb ms sn n S D2 F G b nn mo WL v8 v9 v10 E9 E10 (Q.setB bb ⟨y.a, y.g, splice y.cs off xs, y.used, y.pin⟩) m D1 F' w3 := by
  obtain ⟨y1, y2, y3, y4, y5, y6, y7, y8, y9⟩ := s.pb.pm.blkOf hl
  have yag : y.a ≠ y.g := fun e => by
    have h2 : wx.heap[y.g]? = some (Obj.cells _ 5 (0, 0)) := y2
    rw [e, h2] at y1
    simp at y1
  have off2 : ∀ j, (v8.ownBlock = some j ∨ v9.ownBlock = some j ∨ v10.ownBlock = some j ∨ j = mo) → j < wx.heap.size → w3.heap[j]? = wx.heap[j]? := fun j hj hlt => ht.block j hlt (fun e => s.notF j hj (by rw [show j = y.g from e]; exact y6))
  have pm := s.pb.pm.blk (w3 := w3) (y' := ⟨y.a, y.g, splice y.cs off xs, y.used, y.pin⟩) hl rfl rfl (by show (splice _ _ _).length = _; rw [splice_len _ _ _ hfit, y3]) (bytes_spliceF y4 hxs) ⟨Nat.le_refl _, y7⟩ ((ht.block _ (lt_of y1) yag).trans y1) h3 (fun j hj h1 h2 => ht.block j hj h2)
  have T : Touch F' wx w3 := ht.mono (fun j hj => by rw [show j = y.g from hj]; exact y6)
  refine ⟨(s.pb.turn' pm s.pb.dis (fun j hj => Nat.lt_of_lt_of_le (s.pb.fl j hj) T.size) T rfl).tight, s.fe, s.ff, ownsRow_same s.rl (fun j hj => off2 j (by simp [hj]) (s.rl.lt j hj).2), ownsRow_same s.rw (fun j hj => off2 j (by simp [hj]) (s.rw.lt j hj).2), fun j hj => (off2 j (by simp [hj]) (Nat.lt_of_lt_of_le (s.sep j (Or.inl hj)).1 s.tch.size)).trans (s.ro j hj), s.km.same (off2 mo (by simp) s.km.lt), s.tch.trans T (fun j hj => ?_), s.sep, s.dist⟩
  rcases s.fe j hj with h1 | h1
  · exact Or.inl (Or.inl h1)
  · exact Or.inr h1
/-- A block more. -/
theorem SetM.grow (s : SetM wE h bp mb ms sn n S D2 F G b nn mo WL v8 v9 v10 E9 E10 Q m D1 F' wx) {os : List Int} {e : Ending} {w1 : World} (hp : FreshPost h bp Q mb ms Q.bl.length Q.st.length D2 F' os wx e w1) :
    e = .returned (.agg #[.int .i64 ((Q.lastB + 1 : Nat) : Int), .int .i64 0, .int .i64 (os.length : Int)]) ∧ ∃ a g D1', wx.heap.size ≤ a ∧ wx.heap.size ≤ g ∧ SetM wE h bp mb ms sn n S D2 F G b nn mo WL v8 v9 v10 E9 E10 (Q.grow (newBk Q.size a g os)) m D1' (fun j => F' j ∨ j = a ∨ j = g) w1 ∧ Touch (fun k => k = h ∨ k = mb) wx w1 := by
  obtain ⟨he, a, g, D8, p8, na, ng, t8⟩ := s.pb.fresh hp
  have off2 : ∀ j, (v8.ownBlock = some j ∨ v9.ownBlock = some j ∨ v10.ownBlock = some j ∨ j = mo) → j < wx.heap.size → w1.heap[j]? = wx.heap[j]? := fun j hj hlt => t8.block j hlt (fun e => s.notF j hj (by
    rcases e with rfl | rfl
    · exact s.pb.pm.fh
    · exact s.pb.pm.f1))
  have hsz := s.tch.size
  refine ⟨he, a, g, D8, na, ng, ⟨p8.tight, fun j hj => ?_, fun j hj => Or.inl (s.ff j hj), ownsRow_same s.rl (fun j hj => off2 j (by simp [hj]) (s.rl.lt j hj).2), ownsRow_same s.rw (fun j hj => off2 j (by simp [hj]) (s.rw.lt j hj).2), fun j hj => (off2 j (by simp [hj]) (Nat.lt_of_lt_of_le (s.sep j (Or.inl hj)).1 s.tch.size)).trans (s.ro j hj), s.km.same (off2 mo (by simp) s.km.lt), s.tch.trans t8 (fun j hj => ?_), s.sep, s.dist⟩, t8⟩
  · rcases hj with hj | rfl | rfl
    · exact s.fe j hj
    · right; omega
    · right; omega
  · have hF : F' j := by
      rcases hj with rfl | rfl
      · exact s.pb.pm.fh
      · exact s.pb.pm.f1
    rcases s.fe j hF with h1 | h1
    · exact Or.inl (Or.inl h1)
    · exact Or.inr h1
/-- A part of the copy is turned. -/
theorem SetM.setRow {g9 c9 : Nat} (s : SetM wE h bp mb ms sn n S D2 F G b nn mo WL v8 (.slice (some ⟨g9, 0, none⟩) n c9) v10 E9 E10 Q m D1 F' wx) {k : Nat} {z : Pt} (hz : m[k]? = some z) (x : Pt) :
    SetM wE h bp mb ms sn n S D2 F G b nn mo WL v8 (.slice (some ⟨g9, 0, none⟩) n c9) v10 E9 E10 Q (m.set k x) D1 F' (((wx.setCell ⟨g9, k * 3, none⟩ (.int .i64 (x.b : Int))).setCell ⟨g9, k * 3 + 1, none⟩ (.int .i64 (x.f : Int))).setCell ⟨g9, k * 3 + 2, none⟩ (.int .i64 (x.t : Int))) := by
  have hkl := (List.getElem?_eq_some_iff.1 hz).1
  have SET := wrow_set (wrow_set (wrow_set s.rl (k * 3) (.int .i64 (x.b : Int))) (k * 3 + 1) (.int .i64 (x.f : Int))) (k * 3 + 2) (.int .i64 (x.t : Int))
  have e0 : m = m.take k ++ z :: m.drop (k + 1) := by rw [← drop_at hz, List.take_append_drop]
  have e1 : m.set k x = m.take k ++ x :: m.drop (k + 1) := List.set_eq_take_append_cons_drop.trans (if_pos hkl)
  have kl : (m.take k).length = k := by rw [List.length_take]; omega
  have eSet := ptCells_set (m.take k) (m.drop (k + 1)) z x
  rw [kl, ← e0, ← e1] at eSet
  rw [eSet] at SET
  have own : (Value.slice (some ⟨g9, 0, none⟩) n c9).ownBlock = some g9 := rfl
  have off : ∀ j, j ≠ g9 → (((wx.setCell ⟨g9, k * 3, none⟩ (.int .i64 (x.b : Int))).setCell ⟨g9, k * 3 + 1, none⟩ (.int .i64 (x.f : Int))).setCell ⟨g9, k * 3 + 2, none⟩ (.int .i64 (x.t : Int))).heap[j]? = wx.heap[j]? := fun j hj => (Below.heap_setCell _ _ _ _ hj).trans ((Below.heap_setCell _ _ _ _ hj).trans (Below.heap_setCell _ _ _ _ hj))
  have sp := s.sep g9 (Or.inr (Or.inl own))
  have nf := s.notF g9 (Or.inr (Or.inl own))
  have di := s.dist g9 own
  refine ⟨s.pb.far (fun j hj _ => off j (fun e => ?_)) (by simp [World.setCell]), s.fe, s.ff, SET, ownsRow_same s.rw (fun j hj => off j (fun e => di.2.1 (by rw [← e]; exact hj))), fun j hj => (off j (fun e => di.1 (by rw [← e]; exact hj))).trans (s.ro j hj), s.km.same (off mo (fun e => di.2.2 e.symm)), ((s.tch.setCell (p := ⟨g9, k * 3, none⟩) (Or.inl (Or.inr own)) _).setCell (p := ⟨g9, k * 3 + 1, none⟩) (Or.inl (Or.inr own)) _).setCell (p := ⟨g9, k * 3 + 2, none⟩) (Or.inl (Or.inr own)) _, s.sep, s.dist⟩
  subst e
  rcases hj with hj | hj
  · exact nf hj
  · exact sp.2.2 hj
end

end Go.Proofs.Ytbndknbjjdoanaa
