/-
  book, stranger, NewHeap, and the walk of MoveMade. No conditions.
  slices.Equal at []byte. No conditions.
  Cells of the program beside cells of the reference: which memory shows the same; and the slices that are watched. No conditions.
  Same, Mod: what they give. No conditions.
  appends: what it gives. No conditions.
-/
import Derived.Test.YtjogaohnphafgaaTopCompactPag
import Derived.Test.YtjogaohnphafgaaTopCompactPai
import Derived.Test.YtjogaohnphafgaaTopCompactPab
import Derived.Test.YtjogaohnphafgaaTopCompactPaf
import Derived.Deep.QuietTactic
import Derived.BigQuiet
import Derived.ArgAppend

namespace Go.Proofs.Ytjogaohnphafgaa
section
open Go.RowKit

/-- The book of the statements: one account, number 1. -/
def oneSt (l : Int) : BookSt := openSt (newSt 10000000) 1 l

def BookPost (l : Int) (w : World) : Ending → World → Prop := fun e w' =>
  ∃ p, e = .returned (.pointer (some ⟨p, 0, none⟩)) ∧ BookAt w' (fun k => w.heap.size ≤ k) p (oneSt l) 1 ∧ Below w.heap.size w w'

def strangerE (o : Int) : Int := if o < 1 ∨ 40 < o then 2 else 7
theorem heldE_one (l o : Int) : heldE (oneSt l) o = if o = 1 then 0 else strangerE o := by
  unfold heldE strangerE oneSt openSt newSt
  by_cases h : o = 1
  · subst h; simp
  · by_cases h2 : 1 ≤ o ∧ o ≤ 40
    · rw [if_pos h2]; simp [h]; omega
    · rw [if_neg h2, if_neg h, if_pos (by omega)]

/-- A constructor's result: an object in a new block, or an error. -/
def PtrPost (cs : Array Value) (t : TypeId) (err : Int) (w : World) : Ending → World → Prop := fun e w' =>
  Below w.heap.size w w' ∧ ((err ≠ 0 ∧ e = .returned (.tuple #[.pointer none, .int .i64 err])) ∨
    (err = 0 ∧ ∃ h, e = .returned (.tuple #[.pointer (some ⟨h, 0, none⟩), .int .i64 0]) ∧ w.heap.size ≤ h ∧ w'.heap[h]? = some (.cells cs t (0, 0))))

def heapCells (p : Nat) (o k s m : Int) : Array Value :=
  #[.pointer (some ⟨p, 0, none⟩), .int .i64 o, .int .i64 k, .int .i64 s, .int .i64 m, .bool false, .slice none 0 0, .slice none 0 0, .int .i64 0, .int .i64 0, .slice none 0 0]

def newErr (st : BookSt) (k s m o : Int) : Int := if polErr k s m = 0 then heldE st o else polErr k s m

set_option maxHeartbeats 2000000 in
set_option maxRecDepth 100000 in
theorem newHeap_any (p : Nat) (o k s m : Int) (w : World) (F : Nat → Prop) (st : BookSt) (N : Nat) (hb : BookAt w F p st N) :
    Calls Try.prog 6 #[.pointer (some ⟨p, 0, none⟩), .int .i64 o, .agg #[.int .i64 k, .int .i64 s, .int .i64 m]] w (PtrPost (heapCells p o k s m) 70 (newErr st k s m o) w) := by
  have C := checkPolicy_any k s m
  by_cases h0 : polErr k s m = 0
  · have hb2 := hb.same (Below.same_on (w' := (w.alloc (.cells #[.int .i64 k, .int .i64 s, .int .i64 m] 23)).alloc (.cells #[.int .i64 k, .int .i64 s, .int .i64 m] 23)) (by go_grown))
    have HH := Lib.hid (held_any p o _ F st N hb2)
    by_cases he : heldE st o = 0
    · have E := Lib.hid (show newErr st k s m o = 0 from by unfold newErr; rw [if_pos h0, he])
      rw [h0] at C
      rw [he] at HH
      have HC := Lib.hid C
      clear C h0 he hb hb2
      generalize heldV st o = hv at *
      go_enter Try.func6, Try.ntmps6
      go_wp2_with fail
      refine (HC.out _).mono ?_
      rintro e w1 ⟨rfl, rfl, _⟩
      go_wp2_with fail
      refine HH.out.mono ?_
      rintro e w1 ⟨rfl, rfl⟩
      go_wp2_with fail
      go_ret2
      refine ⟨by go_grown, Or.inr ⟨E.out, _, rfl, ?_, ?_⟩⟩
      · omega
      · have := heap_alloc_new ((w.alloc (.cells #[.int .i64 k, .int .i64 s, .int .i64 m] 23)).alloc (.cells #[.int .i64 k, .int .i64 s, .int .i64 m] 23)) (.cells (heapCells p o k s m) 70)
        simpa [heapCells] using this
    · have E := Lib.hid (show newErr st k s m o = heldE st o from by unfold newErr; rw [if_pos h0])
      have e1 : (heldE st o != 0) = true := bne_iff_ne.2 he
      have NE := Lib.hid he
      rw [h0] at C
      have HC := Lib.hid C
      clear C h0 hb hb2 he
      generalize heldV st o = hv at *
      generalize heldE st o = he at *
      go_enter Try.func6, Try.ntmps6
      go_wp2_with fail
      refine (HC.out _).mono ?_
      rintro e w1 ⟨rfl, rfl, _⟩
      go_wp2_with fail
      refine HH.out.mono ?_
      rintro e w1 ⟨rfl, rfl⟩
      go_wp2_with fail
      go_ret2
      refine ⟨by go_grown, Or.inl ⟨by rw [E.out]; exact NE.out, by rw [E.out]; rfl⟩⟩
  · have E := Lib.hid (show newErr st k s m o = polErr k s m from by unfold newErr; rw [if_neg h0])
    have e1 : (polErr k s m != 0) = true := bne_iff_ne.2 h0
    have NE := Lib.hid h0
    have HC := Lib.hid C
    clear C h0 hb
    generalize polErr k s m = pe at *
    go_enter Try.func6, Try.ntmps6
    go_wp2_with fail
    refine (HC.out _).mono ?_
    rintro e w1 ⟨rfl, rfl, _⟩
    go_wp2_with fail
    go_ret2
    refine ⟨by go_grown, Or.inl ⟨by rw [E.out]; exact NE.out, by rw [E.out]; rfl⟩⟩

/-- The error that the statements expect of a constructor with a policy and an owner. -/
def wantErr (k s m o : Int) : Int := if polErr k s m = 0 then (if o = 1 then 0 else strangerE o) else polErr k s m

theorem newErr_one (l k s m o : Int) : newErr (oneSt l) k s m o = wantErr k s m o := by unfold newErr wantErr; rw [heldE_one]
theorem strangerE_ne (o : Int) : strangerE o ≠ 0 := by unfold strangerE; split <;> decide

end
end Go.Proofs.Ytjogaohnphafgaa

namespace Go.Proofs.Ytjogaohnphafgaa
section
open Go.RowKit

end
end Go.Proofs.Ytjogaohnphafgaa

namespace Go.Proofs.Ytjogaohnphafgaa
section
open Go.RowKit

/-- R b o c p: the cell o of block b (the program's) stands beside the cell p of block c (the reference's). -/
abbrev Rel := Nat → Nat → Nat → Nat → Prop

structure Twins (w : World) (B : Nat) (R : Rel) : Prop where
  val : ∀ b o c p, R b o c p → ∃ z : Int, 0 ≤ z ∧ z ≤ 255 ∧ w.cell? ⟨b, o, none⟩ = some (.int .u8 z) ∧ w.cell? ⟨c, p, none⟩ = some (.int .u8 z)
  row : ∀ b o c p, R b o c p → B ≤ b ∧ B ≤ c ∧ (∃ cs, w.heap[b]? = some (.cells cs 5 (0, 0))) ∧ ∃ cs, w.heap[c]? = some (.cells cs 5 (0, 0))
  one : ∀ b o c p c' p', R b o c p → R b o c' p' → c = c' ∧ p = p'
  inj : ∀ b o c p b' o', R b o c p → R b' o' c p → b = b' ∧ o = o'
  apart : ∀ b o c p b' o' c' p', R b o c p → R b' o' c' p' → ¬ (b = c' ∧ o = p')

/-- A slice of the program and the reference's: the same length and room, cell beside cell. -/
def Pr (R : Rel) (xy : Value × Value) : Prop :=
  ∃ p q len cap, xy = (.slice p len cap, .slice q len cap) ∧ len ≤ cap ∧ cap ≤ 140737488355200 ∧ (0 < cap → ∃ b o c r, p = some ⟨b, o, none⟩ ∧ q = some ⟨c, r, none⟩ ∧ ∀ j, j < cap → R b (o + j) c (r + j))

theorem Twins.below {w w' : World} {B : Nat} {R : Rel} (h : Twins w B R) (hb : Below w.heap.size w w') : Twins w' B R := by
  have lt1 : ∀ b o c p, R b o c p → b < w.heap.size := fun b o c p hr => by obtain ⟨_, _, ⟨cs, h1⟩, _⟩ := h.row b o c p hr; exact lt_of h1
  have lt2 : ∀ b o c p, R b o c p → c < w.heap.size := fun b o c p hr => by obtain ⟨_, _, _, ⟨cs, h1⟩⟩ := h.row b o c p hr; exact lt_of h1
  refine ⟨fun b o c p hr => ?_, fun b o c p hr => ?_, h.one, h.inj, h.apart⟩
  · obtain ⟨z, z0, z1, h1, h2⟩ := h.val b o c p hr
    exact ⟨z, z0, z1, (hb.cell (p := ⟨b, o, none⟩) (lt1 b o c p hr)).trans h1, (hb.cell (p := ⟨c, p, none⟩) (lt2 b o c p hr)).trans h2⟩
  · obtain ⟨b1, b2, ⟨cs, h1⟩, ⟨ds, h2⟩⟩ := h.row b o c p hr
    exact ⟨b1, b2, ⟨cs, (hb.block b (lt1 b o c p hr)).trans h1⟩, ⟨ds, (hb.block c (lt2 b o c p hr)).trans h2⟩⟩

theorem Twins.drewN {w : World} {B : Nat} {R : Rel} (h : Twins w B R) (n : Nat) : Twins (w.drewN n) B R := h.below (bdrewN (Below.refl _ _) n)
/-- What cells hold, as a list. -/
def shown (w : World) (b o n : Nat) : List Int := (List.range n).map fun j => match w.cell? ⟨b, o + j, none⟩ with | some (.int _ z) => z | _ => 0

theorem shown_len (w : World) (b o n : Nat) : (shown w b o n).length = n := by simp [shown]

/-- Both slices, up to their room, read as the same list. -/
theorem Pr.reads {w : World} {B : Nat} {R : Rel} {p q : Option Addr} {len cap : Nat} (h : Pr R (.slice p len cap, .slice q len cap)) (ht : Twins w B R) (n : Nat) (hn : n ≤ cap) :
    ∃ zs : List Int, zs.length = n ∧ (∀ m, Reads w .u8 (.slice p n m) zs ∧ Reads w .u8 (.slice q n m) zs) ∧ ∀ z ∈ zs, 0 ≤ z ∧ z ≤ 255 := by
  obtain ⟨p', q', len', cap', e, hl, hm, hc⟩ := h
  simp only [Prod.mk.injEq, Value.slice.injEq] at e
  obtain ⟨⟨rfl, rfl, rfl⟩, rfl, _, _⟩ := e
  rcases Nat.eq_zero_or_pos n with h0 | h0
  · subst h0
    exact ⟨[], rfl, fun m => ⟨⟨p, m, rfl, by simp, fun h => absurd rfl h⟩, ⟨q, m, rfl, by simp, fun h => absurd rfl h⟩⟩, by simp⟩
  · obtain ⟨b, o, c, r, rfl, rfl, hR⟩ := hc (by omega)
    have key : ∀ j, j < n → ∃ z : Int, 0 ≤ z ∧ z ≤ 255 ∧ w.cell? ⟨b, o + j, none⟩ = some (.int .u8 z) ∧ w.cell? ⟨c, r + j, none⟩ = some (.int .u8 z) ∧ (shown w b o n).getD j 0 = z := by
      intro j hj
      obtain ⟨z, z0, z1, h1, h2⟩ := ht.val _ _ _ _ (hR j (by omega))
      exact ⟨z, z0, z1, h1, h2, by simp [shown, List.getD_eq_getElem?_getD, hj, h1]⟩
    refine ⟨shown w b o n, shown_len _ _ _ _, fun m => ⟨⟨_, m, by rw [shown_len], by rw [shown_len]; omega, fun _ => ⟨b, o, rfl, fun j hj => ?_⟩⟩, ⟨_, m, by rw [shown_len], by rw [shown_len]; omega, fun _ => ⟨c, r, rfl, fun j hj => ?_⟩⟩⟩, ?_⟩
    · rw [shown_len] at hj
      obtain ⟨z, _, _, h1, _, h3⟩ := key j hj
      rw [h1, h3]
    · rw [shown_len] at hj
      obtain ⟨z, _, _, _, h2, h3⟩ := key j hj
      rw [h2, h3]
    · intro z hz
      obtain ⟨j, hj, rfl⟩ := List.mem_iff_getElem.1 hz
      rw [shown_len] at hj
      obtain ⟨z, z0, z1, _, _, h3⟩ := key j hj
      rw [List.getD_eq_getElem?_getD, List.getElem?_eq_getElem (by rw [shown_len]; exact hj)] at h3
      simp only [Option.getD_some] at h3
      rw [h3]
      exact ⟨z0, z1⟩

end
end Go.Proofs.Ytjogaohnphafgaa

namespace Go.Proofs.Ytjogaohnphafgaa
section
open Go.RowKit

def SamePost (w : World) : Ending → World → Prop := fun e w' => e = .returned (.bool true) ∧ ∃ q, w' = w.drewN q

theorem quiet_at {P : Program} {f : FuncId} {args : Array Value} {w : World} {q n : Nat} {v : Value}
    (h : Calls P f args (w.drewN (q + n)) fun e w' => e = .returned v ∧ ∃ m, w' = (w.drewN (q + n)).drewN m) : Calls P f args (w.drewN (q + n)) fun e w'' => e = .returned v ∧ ∃ m, w'' = w.drewN (q + m) :=
  h.mono fun _ _ ⟨he, m, hm⟩ => ⟨he, n + m, by rw [hm, World.drewN_drewN, Nat.add_assoc]⟩

end
end Go.Proofs.Ytjogaohnphafgaa

namespace Go.Proofs.Ytjogaohnphafgaa
section
open Go.RowKit

def KeepPost (w : World) : Ending → World → Prop := fun e w' => e = .returned (.bool true) ∧ Below w.heap.size w w'

theorem byteInfo0 : (Try.prog.info? 5).map (fun i => (i.zero, i.size, i.bytes)) = some (some (.int .u8 0), 1, 1) := by kernel_rfl

/-- The cells of a slice, as the law on append wants them. -/
theorem Reads.cells {w : World} {p : Option Addr} {n m : Nat} {zs : List Int} (h : Reads w .u8 (.slice p n m) zs) (hn : zs.length = n) : ∀ b, p = some b → ∀ j u, (zs.map (Value.int .u8))[j]? = some u → w.cell? (b.add j) = some u := by
  intro b hb j u hj
  subst hb
  obtain ⟨a, cap, e, hl, hc⟩ := h
  simp only [Value.slice.injEq] at e
  obtain ⟨rfl, _, _⟩ := e
  rw [List.getElem?_map] at hj
  obtain ⟨z, hz, rfl⟩ := Option.map_eq_some_iff.1 hj
  have hlt : j < zs.length := (List.getElem?_eq_some_iff.1 hz).1
  obtain ⟨b', o, e, hcell⟩ := hc (by intro e; subst e; simp at hlt)
  cases e
  have e1 : (⟨b', o, none⟩ : Addr).add j = ⟨b', o + j, none⟩ := by unfold Addr.add; split <;> simp_all
  rw [e1, hcell j hlt]
  rw [List.getD_eq_getElem?_getD, hz]
  rfl

theorem new_cells (w : World) (us : List Value) (t : TypeId) : ∀ j u, us[j]? = some u → (w.alloc (.cells us.toArray t)).cell? ((⟨w.heap.size, 0, none⟩ : Addr).add j) = some u := by
  intro j u hj
  have e1 : (⟨w.heap.size, 0, none⟩ : Addr).add j = ⟨w.heap.size, j, none⟩ := by unfold Addr.add; split <;> simp_all
  rw [e1, cell_of_row _ _ _ _ _ _ (heap_alloc_new w _)]
  simpa using hj

end
end Go.Proofs.Ytjogaohnphafgaa
