/-
  octets and put of a ring: what they give. Conditions: numbers in their bounds.
-/
import Derived.Test.YtfolidedcejafaaTopRingPat
namespace Go.Proofs.Ytfolidedcejafaa
open Go.RowKit

theorem cat2 {wB : World} {S1 S2 : Value} {l1 l2 : List Int} (r1 : Reads wB .u8 S1 l1) (r2 : Reads wB .u8 S2 l2) :
    ∀ k (hk : k < [(S1, l1), (S2, l2)].length), (wB.alloc (.cells #[S1, S2] 46)).cell? ⟨wB.heap.size, k, none⟩ = some ([(S1, l1), (S2, l2)][k].1) ∧
      Reads (wB.alloc (.cells #[S1, S2] 46)) .u8 ([(S1, l1), (S2, l2)][k].1) ([(S1, l1), (S2, l2)][k].2) := by
  have W1 : Below wB.heap.size wB (wB.alloc (.cells #[S1, S2] 46)) := (Below.refl wB.heap.size wB).alloc (Nat.le_refl _) _
  have q1 := r1.below W1 rfl
  have q2 := r2.below W1 rfl
  have hn : (wB.alloc (.cells #[S1, S2] 46)).heap[wB.heap.size]? = some (.cells #[S1, S2] 46 (0, 0)) := heap_alloc_new wB _
  intro k hk
  match k, hk with
  | 0, _ => exact ⟨by rw [cell_of hn]; rfl, q1⟩
  | 1, _ => exact ⟨by rw [cell_of hn]; rfl, q2⟩

theorem concat2 {wB : World} {S1 S2 : Value} {l1 l2 : List Int} (r1 : Reads wB .u8 S1 l1) (r2 : Reads wB .u8 S2 l2) (hl : (l1 ++ l2).length ≤ 100000000) :
    Calls Try.prog 77 #[.slice (some ⟨wB.heap.size, 0, none⟩) 2 2] (wB.alloc (.cells #[S1, S2] 46)) (OwnBytes (l1 ++ l2) (wB.alloc (.cells #[S1, S2] 46))) := by
  have e : ([(S1, l1), (S2, l2)].map Prod.snd).flatten = l1 ++ l2 := by simp
  have h := concat_any wB.heap.size [(S1, l1), (S2, l2)] _ (cat2 r1 r2) (by rw [e]; exact hl) (by simp)
  rw [e] at h
  exact h

/-- The memory's octets. -/
def memRow (w : World) (g : Option Nat) (R : Nat) (cs : List Int) : Prop := cs.length = R ∧ match g with | none => R = 0 | some b => byteRow w b cs
theorem memRow.nil {w : World} {g : Option Nat} {R : Nat} {cs : List Int} (h : memRow w g R cs) (hg : g = none) : R = 0 := by subst hg; exact h.2
theorem memRow.keep {w w' : World} {g : Option Nat} {R : Nat} {cs : List Int} (h : memRow w g R cs) (hk : ∀ b, g = some b → w'.heap[b]? = w.heap[b]?) : memRow w' g R cs := by
  refine ⟨h.1, ?_⟩
  cases g with
  | none => exact h.2
  | some b => exact (hk b rfl).trans h.2

/-- Where an octet's cell lies. -/
def cellN (st R n : Nat) : Nat := if R = 0 then 0 else (st + n) % R
theorem cellN_le (st R n : Nat) : cellN st R n ≤ R := by
  unfold cellN; split
  · omega
  · exact Nat.le_of_lt (Nat.mod_lt _ (by omega))

/-- n octets from cell c on. -/
def octL (cs : List Int) (c n : Nat) : List Int := (cs.drop c).take (min (c + n) cs.length - c) ++ cs.take (n - (min (c + n) cs.length - c))
theorem octL_len (cs : List Int) (c n : Nat) (hc : c ≤ cs.length) (hn : n ≤ cs.length) : (octL cs c n).length = n := by
  unfold octL
  simp only [List.length_append, List.length_take, List.length_drop]
  omega

theorem reads_part {w : World} {b : Nat} {cs : List Int} (h : byteRow w b cs) (c k : Nat) (hk : c + k ≤ cs.length) (hl : cs.length ≤ 1000000) (f : Option Addr) (hf : 0 < k → f = some ⟨b, c, none⟩) : Reads w .u8 (.slice f k k) ((cs.drop c).take k) := by
  have hlen : ((cs.drop c).take k).length = k := by rw [List.length_take, List.length_drop]; omega
  refine ⟨f, k, by rw [hlen], by omega, fun hne => ?_⟩
  have h0 : 0 < k := by
    rcases Nat.eq_zero_or_pos k with h0 | h0
    · subst h0; simp at hne
    · exact h0
  refine ⟨b, c, hf h0, fun j hj => ?_⟩
  rw [hlen] at hj
  rw [h.cell (c + j) (by omega)]
  simp [List.getD_eq_getElem?_getD, hj]

set_option maxHeartbeats 1000000 in
set_option maxRecDepth 100000 in
theorem octets_ring (r bp : Nat) (o k s m : Int) (g : Option Nat) (R : Nat) (cs : List Int) (st : Nat) (len : Int) (at' n : Nat) (w : World) (h : ringAt w r bp o k s m (memOf g R) st len) (hm : memRow w g R cs) (hR : R ≤ 1000000) (h1 : st ≤ 1000000) (h2 : at' ≤ 1000000) (h3 : n ≤ R) :
    Calls Try.prog 62 #[.pointer (some ⟨r, 0, none⟩), .int .i64 at', .int .i64 n] w (fun e w' =>
      ∃ v, e = .returned v ∧ w'.ownsRow (w.heap.size + 1) 5 1 v n ((octL cs (cellN st R at') n).map (Value.int .u8)) ∧ Below w.heap.size w w') := by
  have H := Lib.hid h
  have HM := Lib.hid hm
  have C1 := Lib.hid (cell_any r bp o k s m g R st len at' w h hR (by omega) (by omega))
  have hcn : (if R = 0 then (0 : Int) else ((st : Int) + at') % R) = (cellN st R at' : Int) := by
    unfold cellN; split <;> simp
  have HCN := Lib.hid hcn
  have hle := cellN_le st R at'
  have HG := Lib.hid (hm.nil)
  clear h hcn hm
  generalize cellN st R at' = c at *
  go_enter Try.func62, Try.ntmps62
  go_wp2_with fail
  refine C1.out.mono ?_
  rintro e w1 ⟨rfl, q, rfl⟩
  rw [HCN.out]
  go_wp2_with fail
  refine (cells_any r bp o k s m g R st len c n (w.drewN q) H.out hR HG.out hle h3).mono ?_
  rintro e w2 ⟨f1, f2, rfl, hf, q2, rfl⟩
  have hcl := HM.out.1
  have B2 : Below w.heap.size w ((w.drewN q).drewN q2) := bdrewN (bdrewN (Below.refl _ _) q) q2
  have HB2 := Lib.hid B2
  have RS : Reads ((w.drewN q).drewN q2) .u8 (.slice f1 (min (c + n) R - c) (min (c + n) R - c)) ((cs.drop c).take (min (c + n) R - c)) ∧ Reads ((w.drewN q).drewN q2) .u8 (.slice f2 (n - (min (c + n) R - c)) (n - (min (c + n) R - c))) (cs.take (n - (min (c + n) R - c))) := by
    cases hgg : g with
    | none =>
      have hR0 := HG.out hgg
      subst hR0
      have : cs = [] := List.eq_nil_of_length_eq_zero hcl
      subst this
      have e1 : min (c + n) 0 - c = 0 := by omega
      have e2 : n - 0 = 0 := by omega
      rw [e1, e2]
      exact ⟨⟨f1, 0, rfl, by simp, fun h => absurd rfl h⟩, ⟨f2, 0, rfl, by simp, fun h => absurd rfl h⟩⟩
    | some b =>
      have hrow : byteRow ((w.drewN q).drewN q2) b cs := by have := HM.out.2; rw [hgg] at this; exact this
      obtain ⟨x1, x2⟩ := hf b hgg
      refine ⟨reads_part hrow c _ (by omega) (by omega) f1 (fun h0 => x1 (by omega)), ?_⟩
      have := reads_part hrow 0 (n - (min (c + n) R - c)) (by omega) (by omega) f2 (fun h0 => x2 h0)
      rwa [List.drop_zero] at this
  have hol : ((cs.drop c).take (min (c + n) R - c) ++ cs.take (n - (min (c + n) R - c))) = octL cs c n := by unfold octL; rw [hcl]
  have hoo := octL_len cs c n (by omega) (by omega)
  have HOO := Lib.hid hoo
  have CC := concat2 RS.1 RS.2 (by rw [hol, hoo]; omega)
  rw [hol] at CC
  have HCC := Lib.hid CC
  clear RS CC hf hol hoo B2 hcl
  generalize min (c + n) R - c = d at *
  have hsB : ((w.drewN q).drewN q2).heap.size = w.heap.size := rfl
  generalize (w.drewN q).drewN q2 = wB at *
  have HSB := Lib.hid hsB
  clear hsB
  go_wp2_with fail
  refine HCC.out.mono ?_
  rintro e w3 ⟨v, rfl, po, hb3⟩
  rw [HOO.out] at po
  have BA : Below w.heap.size wB (wB.alloc (.cells #[.slice f1 d d, .slice f2 (n - d) (n - d)] 46)) := (Below.refl w.heap.size wB).alloc (by rw [HSB.out]; exact Nat.le_refl _) _
  have B3 := Lib.hid (HB2.out.trans (BA.trans (hb3.mono (by rw [World.size_alloc, HSB.out]; omega))))
  have PO := Lib.hid po
  clear po hb3 BA
  go_wp2_with fail
  go_ret
  refine ⟨_, rfl, ?_, B3.out⟩
  have := PO.out
  rw [World.size_alloc, HSB.out] at this
  exact this

end Go.Proofs.Ytfolidedcejafaa
