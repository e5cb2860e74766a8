/-
  The walk of RoomEdits: of arguments that are not too many. No other conditions.
-/
import Derived.Test.YtmapdgpdpojjjaaReplace2
import Derived.Test.YtmapdgpdpojjjaaEdits
import Derived.Test.YtmapdgpdpojjjaaFits
import Derived.Deep.RegionWith
import Derived.Deep.Cut
import Derived.Laws.BytesArg
namespace Go.Proofs.Ytmapdgpdpojjjaa
open Go.RowKit

theorem Reads.take {w : World} {k : IntKind} {a : Option Addr} {n c : Nat} {zs : List Int} (h : Reads w k (.slice a n c) zs) (m : Nat) (hm : m ≤ zs.length) : Reads w k (.slice a m c) (zs.take m) := by
  obtain ⟨a', cap, e, hl, hc⟩ := h
  simp only [Value.slice.injEq] at e
  obtain ⟨rfl, rfl, rfl⟩ := e
  have hlm : (zs.take m).length = m := by rw [List.length_take]; omega
  refine ⟨a, c, by rw [hlm], by omega, fun hne => ?_⟩
  have h0 : 0 < m := by
    rcases Nat.eq_zero_or_pos m with h0 | h0
    · subst h0; simp at hne
    · exact h0
  obtain ⟨b, o, rfl, h1⟩ := hc (by intro e; subst e; simp at hm; omega)
  refine ⟨b, o, rfl, fun j hj => ?_⟩
  rw [hlm] at hj
  rw [h1 j (by omega)]
  simp [List.getD_eq_getElem?_getD, hj]

theorem Reads.dropZ {w : World} {k : IntKind} {b o n c : Nat} {zs : List Int} (h : Reads w k (.slice (some ⟨b, o, none⟩) n c) zs) (t : Nat) (ht : t ≤ zs.length) (z : Option Addr) (hz : t < zs.length → z = some ⟨b, o + t, none⟩) (m : Nat) : Reads w k (.slice z (n - t) m) (zs.drop t) := by
  obtain ⟨a', cap, e, hl, hc⟩ := h
  simp only [Value.slice.injEq] at e
  obtain ⟨rfl, rfl, rfl⟩ := e
  have hlm : (zs.drop t).length = zs.length - t := by rw [List.length_drop]
  refine ⟨z, m, by rw [hlm], by omega, fun hne => ?_⟩
  have h0 : t < zs.length := by
    rcases Nat.lt_or_ge t zs.length with h0 | h0
    · exact h0
    · exact absurd (List.drop_eq_nil_of_le h0) hne
  obtain ⟨b', o', e1, h1⟩ := hc (by intro e; subst e; simp at h0)
  simp only [Option.some.injEq, Addr.mk.injEq, and_true] at e1
  obtain ⟨rfl, rfl⟩ := e1
  refine ⟨b, o + t, hz h0, fun j hj => ?_⟩
  rw [hlm] at hj
  rw [Nat.add_assoc, h1 (t + j) (by omega)]
  simp [List.getD_eq_getElem?_getD]

theorem cat3 {wB : World} {S1 S2 S3 : Value} {l1 l2 l3 : List Int} (r1 : Reads wB .u8 S1 l1) (r2 : Reads wB .u8 S2 l2) (r3 : Reads wB .u8 S3 l3) :
    ∀ k (hk : k < [(S1, l1), (S2, l2), (S3, l3)].length), ((wB.alloc (.cells #[S1, S2, S3] 24)).drew).cell? ⟨wB.heap.size, k, none⟩ = some ([(S1, l1), (S2, l2), (S3, l3)][k].1) ∧
      Reads ((wB.alloc (.cells #[S1, S2, S3] 24)).drew) .u8 ([(S1, l1), (S2, l2), (S3, l3)][k].1) ([(S1, l1), (S2, l2), (S3, l3)][k].2) := by
  have W1 : Below wB.heap.size wB ((wB.alloc (.cells #[S1, S2, S3] 24)).drew) := ((Below.refl wB.heap.size wB).alloc (Nat.le_refl _) _).drew
  have q1 := r1.below W1 rfl
  have q2 := r2.below W1 rfl
  have q3 := r3.below W1 rfl
  have hn : ((wB.alloc (.cells #[S1, S2, S3] 24)).drew).heap[wB.heap.size]? = some (.cells #[S1, S2, S3] 24 (0, 0)) := heap_alloc_new wB _
  intro k hk
  match k, hk with
  | 0, _ => exact ⟨by rw [cell_of hn]; rfl, q1⟩
  | 1, _ => exact ⟨by rw [cell_of hn]; rfl, q2⟩
  | 2, _ => exact ⟨by rw [cell_of hn]; rfl, q3⟩

theorem concat3 {wB : World} {S1 S2 S3 : Value} {l1 l2 l3 : List Int} (r1 : Reads wB .u8 S1 l1) (r2 : Reads wB .u8 S2 l2) (r3 : Reads wB .u8 S3 l3) (hl : (l1 ++ l2 ++ l3).length ≤ 100000000) :
    Calls Try.prog 19 #[.slice (some ⟨wB.heap.size, 0, none⟩) 3 3] ((wB.alloc (.cells #[S1, S2, S3] 24)).drew) (OwnBytes (l1 ++ l2 ++ l3) ((wB.alloc (.cells #[S1, S2, S3] 24)).drew)) := by
  have e : ([(S1, l1), (S2, l2), (S3, l3)].map Prod.snd).flatten = l1 ++ l2 ++ l3 := by simp
  have h := concat_any wB.heap.size [(S1, l1), (S2, l2), (S3, l3)] _ (cat3 r1 r2 r3) (by rw [e]; exact hl) (by simp)
  rw [e] at h
  exact h

theorem conv_row {W : World} {g : Nat} {ds : List Int} (h : byteRow W g ds) (N V : Nat) (L : List Int) (hL : L.length = N) (hN : N ≤ ds.length) (ht : ds.take N = L) :
    (convert 24 9 (.slice (some ⟨g, 0, none⟩) N V)).run Try.prog W = .ok (.string (strOfNums L)) W := by
  refine run_convert_bytes_arg W 24 5 Try.underlying24 Try.underlying5 g 0 N V L hL (fun i hi => ?_) 9 Try.underlying9
  rw [Nat.zero_add, h.cell i (by omega), ← ht]
  simp [List.getD_eq_getElem?_getD, hi]

def PlainAt (pl : Value) (n g : Nat) : Prop := (pl = .slice none 0 0 ∧ n = 0) ∨ ∃ b c, pl = .slice (some ⟨b, 0, none⟩) n c ∧ b ≠ g ∧ n ≤ c ∧ c ≤ maxLen
theorem PlainAt.of {W : World} {B e n g : Nat} {v : Value} {xs : List Value} (h : W.ownsRow B e 1 v n xs) (hg : g < B) : PlainAt v n g := by
  rcases h.2 with ⟨rfl, h0⟩ | ⟨b, cap, cur, rfl, hb, _, h1, h2, _⟩
  · exact Or.inl ⟨rfl, h0⟩
  · exact Or.inr ⟨b, cap, rfl, by omega, h1, h2⟩
theorem PlainAt.ne {pl : Value} {n g : Nat} (h : PlainAt pl n g) (b o n' c : Nat) (e : pl = .slice (some ⟨b, o, none⟩) n' c) : ¬ (b = g) := by
  rcases h with ⟨rfl, _⟩ | ⟨b', c', rfl, hb, _⟩
  · cases e
  · simp only [Value.slice.injEq, Option.some.injEq, Addr.mk.injEq] at e
    omega

theorem conv_plain {W : World} {a : Option Addr} {N c g : Nat} {L : List Int} (h : Reads W .u8 (.slice a N c) L) (hL : L.length = N) (hp : PlainAt (.slice a N c) N g) :
    (convert 24 9 (.slice a N c)).run Try.prog W = .ok (.string (strOfNums L)) W := by
  rcases hp with ⟨e, h0⟩ | ⟨b, c', e, _⟩
  · simp only [Value.slice.injEq] at e
    obtain ⟨rfl, rfl, rfl⟩ := e
    obtain rfl : L = [] := List.eq_nil_of_length_eq_zero hL
    exact run_convert_bytes_nil W 24 5 Try.underlying24 Try.underlying5 0 0 9 Try.underlying9
  · simp only [Value.slice.injEq] at e
    obtain ⟨rfl, _, rfl⟩ := e
    obtain ⟨a', cap', e', _, hc⟩ := h
    simp only [Value.slice.injEq] at e'
    obtain ⟨rfl, _, _⟩ := e'
    refine run_convert_bytes_arg W 24 5 Try.underlying24 Try.underlying5 b 0 N c L hL (fun i hi => ?_) 9 Try.underlying9
    obtain ⟨b', o', e1, h1⟩ := hc (by intro e; subst e; simp at hL; omega)
    simp only [Option.some.injEq, Addr.mk.injEq, and_true] at e1
    obtain ⟨rfl, rfl⟩ := e1
    exact h1 i (by omega)

theorem replace_any2 (k s m : Int) (g : Nat) (cs : List Int) (n cap f t : Nat) (v : Value) (zs : List Int) (N V : Nat) (w : World) (hp : polErr k s m = 0) (hr : byteRow w g cs) (hcl : cs.length = cap) (hc : cap ≤ 100000) (hn : n ≤ cap) (hft : f ≤ t) (htn : t ≤ n)
    (hv : Reads w .u8 v zs) (hz : zs.length ≤ 100000) (hbz : bytes zs) (hbc : bytes cs) (hNe : N = n - (t - f) + zs.length) (hN : N ≤ 100000) (he : growE k s m cap N = 0) (hV : growV k s m cap N = (V : Int)) :
    Calls Try.prog 18 #[.agg #[.int .i64 k, .int .i64 s, .int .i64 m], .slice (some ⟨g, 0, none⟩) n cap, .int .i64 f, .int .i64 t, v] w (fun e w' =>
      ∃ g' ds, e = .returned (.tuple #[.slice (some ⟨g', 0, none⟩) N V, .bool (decide (cap < N)), .int .i64 0]) ∧ byteRow w' g' ds ∧ ds.length = V ∧ bytes ds ∧
        ds.take N = cs.take f ++ zs ++ (cs.take n).drop t ∧ (g' = g ∨ w.heap.size ≤ g') ∧ Touch (fun k => k = g) w w') := by
  refine (replace_any k s m g cs n cap f t v zs N w hp hr hcl hc hn hft htn hv hz hbz hbc hNe hN he).mono ?_
  rintro e w' ⟨g', ds, rfl, r1, r2, r3⟩
  rw [hV] at r2 ⊢
  exact ⟨g', ds, rfl, r1, r2, r3⟩

theorem modv_eq (x n : Int) (h : 1 ≤ n) : ((modv x n : Nat) : Int) = (x.tmod n + n) % n := by
  have t3 : 0 ≤ (x.tmod n + n) % n := Int.emod_nonneg _ (by omega)
  unfold modv; omega
theorem tmod_bd (x n : Int) (h : 1 ≤ n) : -n < x.tmod n ∧ x.tmod n < n :=
  ⟨Int.neg_lt_of_neg_lt (by have := Int.lt_tmod_of_pos x (show 0 < n by omega); omega), Int.tmod_lt_of_pos x (by omega)⟩

set_option maxHeartbeats 4000000 in
set_option maxRecDepth 100000 in
theorem roomEdits (p0 p1 p2 : Int) (v1 : Value) (z1 : List Int) (have' : Int) (v3 : Value) (ne : Nat) (es : Nat → Int × Int × Int) (v4 : Value) (z4 : List Int) (w : World)
    (_ : i64in p0) (_ : i64in p1) (_ : i64in p2) (h1 : RowIn w .u8 1 v1 z1) (b1 : z1.length ≤ 1048576) (hh : i64in have') (h3 : Edits w v3 ne es) (b3 : ne ≤ 1048576) (h4 : RowIn w .u8 1 v4 z4) (f4 : sliceFits v4) (b4 : z4.length ≤ 1048576) :
    Calls Try.prog 4 #[.agg #[.int .i64 p0, .int .i64 p1, .int .i64 p2], v1, .int .i64 have', v3, v4] w (LawPost w) := by
  have HB1 := Lib.hid (show bytes z1 from fun z hz => range_u8 (h1.wf z hz))
  have HB4 := Lib.hid (show bytes z4 from fun z hz => range_u8 (h4.wf z hz))
  have HR1 := Lib.hid h1.reads
  have HR4 := Lib.hid h4.reads
  have H3 := Lib.hid h3
  obtain ⟨a1, c1, rfl, _, _⟩ := h1.reads
  obtain ⟨a4, c4, rfl, _, _⟩ := h4.reads
  obtain ⟨a3, c3, rfl, h3a, h3b, _⟩ := h3.shape
  obtain ⟨hh1, hh2⟩ := hh
  simp only [sliceFits] at f4
  have W0 : Below w.heap.size w (w.alloc (.cells #[.int .i64 p0, .int .i64 p1, .int .i64 p2] 23)) := by go_grown
  have HW0 := Lib.hid W0
  have bx0 : (w.alloc (.cells #[.int .i64 p0, .int .i64 p1, .int .i64 p2] 23)).heap[w.heap.size]? = some (.cells #[.int .i64 p0, .int .i64 p1, .int .i64 p2] 23 (0, 0)) := heap_alloc_new w _
  have HX0 := Lib.hid bx0
  clear h1 h3 h4 W0 bx0
  go_enter Try.func4, Try.ntmps4
  go_wp2_with fail
  refine (awakeRoom_any _).mono ?_
  rintro e w1 ⟨rfl, hb⟩
  have hs0 := HW0.out.size
  have B1 := Lib.hid (HW0.out.trans (hb.mono hs0))
  have HX1 : Hid (w1.heap[w.heap.size]? = some (.cells #[.int .i64 p0, .int .i64 p1, .int .i64 p2] 23 (0, 0))) := Lib.hid ((hb.block _ (by simp)).trans HX0.out)
  have x0 : w1.cell? ⟨w.heap.size, 0, none⟩ = some (.int .i64 p0) := by rw [cell_of HX1.out]; rfl
  have x1 : w1.cell? ⟨w.heap.size, 1, none⟩ = some (.int .i64 p1) := by rw [cell_of HX1.out]; rfl
  have x2 : w1.cell? ⟨w.heap.size, 2, none⟩ = some (.int .i64 p2) := by rw [cell_of HX1.out]; rfl
  clear hb hs0 HX0 HW0
  by_cases e1 : have' < z1.length
  · go_wp2_with fail
    go_ret
    exact ⟨rfl, B1.out⟩
  by_cases e2 : 100000 < have'
  · go_wp2_with fail
    go_ret
    exact ⟨rfl, B1.out⟩
  by_cases e3 : p2 < 1000
  · go_wp2_with fail
    go_ret
    exact ⟨rfl, B1.out⟩
  go_wp2_with fail
  refine (checkPolicy_any p0 p1 p2 _).mono ?_
  rintro e w2 ⟨rfl, rfl, _⟩
  have B2 := Lib.hid (B1.out.alloc (B1.out.size) (.cells #[.int .i64 p0, .int .i64 p1, .int .i64 p2] 23))
  have HX2 : Hid ((w1.alloc (.cells #[.int .i64 p0, .int .i64 p1, .int .i64 p2] 23)).heap[w.heap.size]? = some (.cells #[.int .i64 p0, .int .i64 p1, .int .i64 p2] 23 (0, 0))) := Lib.hid ((heap_alloc_old _ _ (lt_of HX1.out)).trans HX1.out)
  clear x0 x1 x2 HX1
  generalize w1.alloc (.cells #[.int .i64 p0, .int .i64 p1, .int .i64 p2] 23) = w2 at *
  by_cases e4 : polErr p0 p1 p2 = 0
  case neg =>
    have e4' : (polErr p0 p1 p2 == 0) = false := by simpa using e4
    go_wp2_with fail
    go_ret
    exact ⟨rfl, B2.out⟩
  have HP := Lib.hid e4
  rw [e4]
  clear e4
  obtain ⟨M, hM⟩ : ∃ M : Nat, M = ne * z4.length := ⟨_, rfl⟩
  have HM := Lib.hid hM
  have M1 : M ≤ 1048576 * 1048576 := by rw [hM]; exact Nat.mul_le_mul b3 b4
  have M2 : (ne : Int) * (z4.length : Int) = (M : Int) := by rw [hM]; simp
  clear hM
  by_cases e5 : 900 < z1.length + M
  · have e5' : (900 : Int) < z1.length + M := by omega
    go_wp2_with fail
    go_ret
    exact ⟨rfl, B2.out⟩
  have e5' : ¬ ((900 : Int) < z1.length + M) := by omega
  have HR1' := Lib.hid (HR1.out.below B2.out rfl)
  go_wp2_with fail
  refine (copied_any _ z1 have' w2 HR1'.out).mono ?_
  rintro e w3 ⟨hb3, hcase⟩
  rcases hcase with ⟨_, g, hg, rfl, r3⟩ | ⟨hne, _⟩
  case inr =>
    refine absurd ?_ hne
    unfold copE
    rw [if_neg (by omega), if_pos (by omega)]
  have B3 := Lib.hid (B2.out.trans (hb3.mono B2.out.size))
  have HX3 := Lib.hid ((hb3.block _ (lt_of HX2.out)).trans HX2.out)
  have R3 := Lib.hid r3
  have HR3 := Lib.hid (HR1.out.below B3.out rfl)
  have hg0 : w.heap.size < g := Nat.lt_of_lt_of_le (lt_of HX2.out) hg
  clear hb3 r3 HX2 hg HR1'
  go_wp2_with fail
  refine (clone_byte _ z1 w3 HR3.out (by omega)).mono ?_
  rintro e w4 ⟨pv, rfl, po, hb4⟩
  have B4 := Lib.hid (B3.out.trans (hb4.mono B3.out.size))
  have HX4 := Lib.hid ((hb4.block _ (lt_of HX3.out)).trans HX3.out)
  have glt := lt_of R3.out
  have R4 : Hid (byteRow w4 g _) := Lib.hid ((hb4.block g glt).trans R3.out)
  have PR := Lib.hid (Reads.own po (by omega))
  have PB : Hid (PlainAt pv z1.length g) := Lib.hid (PlainAt.of po glt)
  clear po hb4 R3 HX3 HR3
  go_wp2_with fail
  have DL : Hid ((z1 ++ zeros (have'.toNat - z1.length)).length = have'.toNat) := Lib.hid (by simp [zeros]; omega)
  have DT : Hid ((z1 ++ zeros (have'.toNat - z1.length)).take z1.length = z1) := Lib.hid (by simp)
  have DB : Hid (bytes (z1 ++ zeros (have'.toNat - z1.length))) := Lib.hid (by
    intro z hz
    rcases List.mem_append.1 hz with h | h
    · exact HB1.out z h
    · exact bytes_zeros _ z h)
  generalize z1 ++ zeros (have'.toNat - z1.length) = D0 at *
  have h0' : have'.toNat ≤ 100000 := by omega
  have h1' : z1.length ≤ have'.toNat := by omega
  generalize have'.toNat = cap0 at *
  go_loopw [69, 11, 13] (fun i x pl wr => ∃ (k g cap : Nat) (cs L : List Int), k ≤ ne ∧ i = .int .i64 k ∧ x = .slice (some ⟨g, 0, none⟩) L.length cap ∧ byteRow wr g cs ∧ cs.length = cap ∧ bytes cs ∧ cs.take L.length = L ∧ L.length ≤ cap ∧ cap ≤ 100000 ∧ w.heap.size < g ∧
    Reads wr .u8 pl L ∧ PlainAt pl L.length g ∧ L.length ≤ z1.length + k * z4.length ∧ wr.heap[w.heap.size]? = some (.cells #[.int .i64 p0, .int .i64 p1, .int .i64 p2] 23 (0, 0)) ∧ Below w.heap.size w wr) (fun i _ _ _ => ne - (intOf i).toNat)
  case atStart =>
    refine ⟨0, g, cap0, D0, z1, Nat.zero_le _, rfl, rfl, R4.out, DL.out, DB.out, DT.out, h1', h0', hg0, PR.out, PB.out, by omega, HX4.out, B4.out⟩
  case round =>
    clear R4 DL DT DB PR PB HX4 B4
    obtain ⟨k, g1, cap, cs, L, hk, rfl, rfl, r1, hcl, hcb, hct, hlc, hc1, hgw, hpl, hpb, hll, hx, hbel⟩ := hrel
    by_cases hlt : k < ne
    · have kk : (k + 1) * z4.length ≤ M := by rw [HM.out]; exact Nat.mul_le_mul_right _ (by omega)
      have kk2 : (k + 1) * z4.length = k * z4.length + z4.length := by rw [Nat.add_mul, Nat.one_mul]
      have kk3 : L.length + z4.length ≤ 900 := by omega
      obtain ⟨a3', c3', e3', _, _, he3⟩ := (H3.out.below hbel).shape
      simp only [Value.slice.injEq] at e3'
      obtain ⟨rfl, _, rfl⟩ := e3'
      obtain ⟨eb, eo, rfl, he4⟩ := he3 (by omega)
      obtain ⟨y0, y1, y2⟩ := he4 k hlt
      obtain ⟨⟨i0a, i0b⟩, ⟨i1a, i1b⟩, ⟨i2a, i2b⟩⟩ := H3.out.wf k hlt
      generalize (es k).1 = X0 at *
      generalize (es k).2.1 = X1 at *
      generalize (es k).2.2 = X2 at *
      obtain ⟨n, hn⟩ : ∃ n, n = L.length := ⟨_, rfl⟩
      have HNL := Lib.hid hn
      have HLL0 : L.length + z4.length ≤ z1.length + (k + 1) * z4.length := by omega
      rw [← hn] at hlc hll kk3 hct hpb ⊢
      have R1 := Lib.hid r1
      have CB := Lib.hid hcb
      have CT := Lib.hid hct
      have CL := Lib.hid hcl
      have PR := Lib.hid hpl
      have HX := Lib.hid hx
      have BL := Lib.hid hbel
      obtain ⟨pa, pc, rfl, _, _⟩ := hpl
      have PR2 : Hid (Reads wr .u8 (.slice pa n pc) L) := Lib.hid (by rw [hn]; exact PR.out)
      have HLL : Hid (n + z4.length ≤ z1.length + (k + 1) * z4.length) := Lib.hid (by rw [hn]; exact HLL0)
      clear HLL0
      have PB : Hid (PlainAt (.slice pa n pc) n g1) := Lib.hid (by rw [hn] at hpb ⊢; exact hpb)
      rw [← hn]
      obtain ⟨f, hf⟩ : ∃ f, f = modv X0 (n + 1) := ⟨_, rfl⟩
      have f1 := modv_lt X0 (n + 1) (by omega)
      have tm1 := tmod_bd X0 (n + 1) (by omega)
      have E0 : (X0.tmod ((n : Int) + 1) + n + 1) % ((n : Int) + 1) = (f : Int) := by
        rw [hf, modv_eq _ _ (by omega)]; congr 1; omega
      rw [← hf] at f1
      have ff : f ≤ n := by omega
      obtain ⟨d, hd⟩ : ∃ d, d = modv X1 ((n : Int) - f + 1) := ⟨_, rfl⟩
      have d1 := modv_lt X1 ((n : Int) - f + 1) (by omega)
      have tm2 := tmod_bd X1 ((n : Int) - f + 1) (by omega)
      have E1 : (X1.tmod ((n : Int) - f + 1) + n - f + 1) % ((n : Int) - f + 1) = (d : Int) := by
        rw [hd, modv_eq _ _ (by omega)]; congr 1; omega
      rw [← hd] at d1
      obtain ⟨t, ht⟩ : ∃ t, t = f + d := ⟨_, rfl⟩
      have E2 := Lib.hid (show (f : Int) + d = (t : Int) by omega)
      have tn : t ≤ n := by omega
      have ft : f ≤ t := by omega
      have em1 : 0 ≤ (X1.tmod ((n : Int) - f + 1) + n - f + 1) % ((n : Int) - f + 1) := by omega
      have em2 : (X1.tmod ((n : Int) - f + 1) + n - f + 1) % ((n : Int) - f + 1) ≤ n := by omega
      obtain ⟨mm, hmm⟩ : ∃ mm, mm = modv X2 ((z4.length : Int) + 1) := ⟨_, rfl⟩
      have m1 := modv_lt X2 ((z4.length : Int) + 1) (by omega)
      have tm3 := tmod_bd X2 ((z4.length : Int) + 1) (by omega)
      have E3 : (X2.tmod ((z4.length : Int) + 1) + z4.length + 1) % ((z4.length : Int) + 1) = (mm : Int) := by
        rw [hmm, modv_eq _ _ (by omega)]; congr 1; omega
      rw [← hmm] at m1
      have ml : mm ≤ z4.length := by omega
      have ml4 : mm ≤ c4 := by omega
      obtain ⟨tm1a, tm1b⟩ := tm1
      obtain ⟨tm2a, tm2b⟩ := tm2
      obtain ⟨tm3a, tm3b⟩ := tm3
      have x0 : wr.cell? ⟨w.heap.size, 0, none⟩ = some (.int .i64 p0) := by rw [cell_of hx]; rfl
      have x1 : wr.cell? ⟨w.heap.size, 1, none⟩ = some (.int .i64 p1) := by rw [cell_of hx]; rfl
      have x2 : wr.cell? ⟨w.heap.size, 2, none⟩ = some (.int .i64 p2) := by rw [cell_of hx]; rfl
      have bsz := lt_of hx
      clear hf hd hmm ht kk kk2 hcl hcb hct hpb r1 hx hbel he3 he4 hn M2 e5' hll
      go_upto_region 14 with (fail)
      rw [E0]
      go_upto_region 15 with (fail)
      rw [E1, E2.out]
      go_upto_region 16 with (fail)
      rw [E3]
      have RA : Hid (byteRow (wr.alloc (.cells #[.int .i64 X0, .int .i64 X1, .int .i64 X2] 48)).drew g1 cs) := Lib.hid ((heap_alloc_old _ _ (lt_of R1.out)).trans R1.out)
      have XA : Hid ((wr.alloc (.cells #[.int .i64 X0, .int .i64 X1, .int .i64 X2] 48)).heap[w.heap.size]? = some (.cells #[.int .i64 p0, .int .i64 p1, .int .i64 p2] 23 (0, 0))) := Lib.hid ((heap_alloc_old _ _ bsz).trans HX.out)
      have PA := Lib.hid (PR2.out.below (w' := (wr.alloc (.cells #[.int .i64 X0, .int .i64 X1, .int .i64 X2] 48)).drew) ((Below.refl _ _).alloc (Nat.le_refl _) _).drew rfl)
      have BA := Lib.hid ((BL.out.alloc BL.out.size (.cells #[.int .i64 X0, .int .i64 X1, .int .i64 X2] 48)).drew)
      clear R1 PR PR2 BL x0 x1 x2 HX
      go_wp2_with fail
      generalize wr.alloc (.cells #[.int .i64 X0, .int .i64 X1, .int .i64 X2] 48) = wA at *
      have x0 : wA.cell? ⟨w.heap.size, 0, none⟩ = some (.int .i64 p0) := by rw [cell_of XA.out]; rfl
      have x1 : wA.cell? ⟨w.heap.size, 1, none⟩ = some (.int .i64 p1) := by rw [cell_of XA.out]; rfl
      have x2 : wA.cell? ⟨w.heap.size, 2, none⟩ = some (.int .i64 p2) := by rw [cell_of XA.out]; rfl
      have Z4A := Lib.hid ((HR4.out.below BA.out rfl).take mm ml)
      have zl : (z4.take mm).length = mm := by rw [List.length_take]; omega
      have HZL := Lib.hid zl
      have zb : bytes (z4.take mm) := fun z hz => HB4.out z (List.mem_of_mem_take hz)
      obtain ⟨N, hN⟩ : ∃ N, N = n - (t - f) + mm := ⟨_, rfl⟩
      have HNN : Hid (N = n - (t - f) + (z4.take mm).length) := Lib.hid (by rw [zl]; exact hN)
      have N900 : N ≤ 900 := by omega
      have GE : Hid (growE p0 p1 p2 cap N = 0) := Lib.hid (by
        unfold growE gE
        rw [if_pos HP.out, if_pos ⟨by omega, by omega⟩]
        by_cases hh : (N : Int) ≤ cap
        · rw [if_pos hh]
        · rw [if_neg hh, if_neg (by omega)])
      have ZL := Lib.hid (show (z4.take mm).length ≤ 100000 by omega)
      have ZB := Lib.hid zb
      have N1 : N ≤ 100000 := by omega
      have gvn : 0 ≤ growV p0 p1 p2 cap N ∧ growV p0 p1 p2 cap N ≤ 100000 ∧ (N ≤ cap → growV p0 p1 p2 cap N = cap) ∧ (cap < N → (N : Int) ≤ growV p0 p1 p2 cap N) := by
        by_cases hh : N ≤ cap
        · have := growV_has p0 p1 p2 cap N HP.out hc1 hh
          exact ⟨by omega, by omega, fun _ => this.1, fun h => by omega⟩
        · have := growV_new p0 p1 p2 cap N HP.out hc1 N1 GE.out
          exact ⟨by omega, by omega, fun h => by omega, fun _ => this.1⟩
      obtain ⟨V, hV⟩ : ∃ V : Nat, growV p0 p1 p2 cap N = (V : Int) := ⟨(growV p0 p1 p2 cap N).toNat, by omega⟩
      have VV := Lib.hid hV
      rw [hV] at gvn
      obtain ⟨_, V1, V2, V3⟩ := gvn
      have V2' : N ≤ cap → V = cap := fun h => by have := V2 h; omega
      have V3' : cap < N → N ≤ V := fun h => by have := V3 h; omega
      have HV2 := Lib.hid V2'
      have HV3 := Lib.hid V3'
      clear hN zb zl hV V2 V3 V2' V3'
      go_region_with ((go_at_call 18; refine (replace_any2 p0 p1 p2 g1 cs n cap f t (.slice a4 mm c4) (z4.take mm) N V _ HP.out RA.out CL.out hc1 hlc ft tn Z4A.out ZL.out ZB.out CB.out HNN.out N1 GE.out VV.out).mono ?_; rintro e wB ⟨g2, ds, rfl, rB, dl, db, dt, hg2, tB⟩))
      have XB : Hid (wB.heap[w.heap.size]? = some (.cells #[.int .i64 p0, .int .i64 p1, .int .i64 p2] 23 (0, 0))) := Lib.hid ((tB.block _ (lt_of XA.out) (by omega)).trans XA.out)
      have P2 := Lib.hid (PA.out.touch tB PB.out.ne)
      have BB := Lib.hid (BA.out.trans (tB.below (B := w.heap.size) BA.out.size (fun k hk => by omega)))
      have Z4B := Lib.hid ((HR4.out.below BB.out rfl).take mm ml)
      have RB := Lib.hid rB
      have DL := Lib.hid dl
      have DB := Lib.hid db
      have DT := Lib.hid dt
      have HG2 : Hid (w.heap.size < g2) := Lib.hid (by
        rcases hg2 with rfl | h
        · exact hgw
        · exact Nat.lt_of_lt_of_le (lt_of XA.out) (by simpa using h))
      have GL := lt_of rB
      clear tB RA PA BA x0 x1 x2 XA rB dl db dt hg2 Z4A
      rcases PB.out with ⟨e, hz0⟩ | ⟨pb, pc', e, hpb2, hnc, hcm⟩
      · simp only [Value.slice.injEq] at e
        obtain ⟨rfl, rfl, rfl⟩ := e
        obtain rfl : f = 0 := by omega
        obtain rfl : t = 0 := by omega
        have hL0 : L = [] := List.eq_nil_of_length_eq_zero HNL.out.symm
        have RN : ∀ W : World, Reads W .u8 (.slice none 0 0) [] := fun W => ⟨none, 0, rfl, by simp, fun h => absurd rfl h⟩
        have RS1 : Reads wB .u8 (.slice none 0 0) (L.take 0) := by rw [hL0]; exact RN _
        have RS3 : Reads wB .u8 (.slice none 0 0) (L.drop 0) := by rw [hL0]; exact RN _
        clear RN
        have W1 : Below wB.heap.size wB ((wB.alloc (.cells #[(.slice none 0 0), .slice a4 mm c4, (.slice none 0 0)] 24)).drew) := ((Below.refl wB.heap.size wB).alloc (Nat.le_refl _) _).drew
        have BB2 := Lib.hid (BB.out.trans (W1.mono BB.out.size))
        have RB2 : Hid (byteRow ((wB.alloc (.cells #[(.slice none 0 0), .slice a4 mm c4, (.slice none 0 0)] 24)).drew) g2 ds) := Lib.hid ((W1.block g2 GL).trans RB.out)
        have XB2 := Lib.hid ((W1.block w.heap.size (lt_of XB.out)).trans XB.out)
        have fll : (L.take 0 ++ z4.take mm ++ L.drop 0).length = N := by
          have h1 := HNL.out
          have h2 := HNN.out
          simp only [List.length_append, List.length_take, List.length_drop] at h2 ⊢
          omega
        have HC := Lib.hid (concat3 RS1 Z4B.out RS3 (by rw [fll]; omega))
        have HFLL := Lib.hid fll
        clear RS1 RS3 W1 fll
        go_wp2_with fail
        go_region_with ((go_at_call 19; go_loud (refine HC.out.mono ?_); rintro e wC ⟨pl2, rfl, po2, hbC⟩))
        have BC := Lib.hid (BB2.out.trans (hbC.mono BB2.out.size))
        have RC : Hid (byteRow wC g2 ds) := Lib.hid ((hbC.block g2 (lt_of RB2.out)).trans RB2.out)
        have XC := Lib.hid ((hbC.block _ (lt_of XB2.out)).trans XB2.out)
        have GX := lt_of RB2.out
        rw [HFLL.out] at po2
        have DT2 : ds.take N = L.take 0 ++ z4.take mm ++ L.drop 0 := by
          rw [DT.out, hL0]; simp
        have HLN := HFLL.out
        clear hbC HC HFLL RB2 XB2 BB2
        generalize L.take 0 ++ z4.take mm ++ L.drop 0 = L2 at *
        have PAT := PlainAt.of po2 GX
        have PR3 : Reads wC .u8 pl2 L2 := Reads.own (by rw [HLN]; exact po2) (by omega)
        obtain ⟨qa, qc, rfl, hq1, hq2⟩ := ownsRow_lt2 po2
        have HPR3 := Lib.hid PR3
        have HPAT := Lib.hid PAT
        have HDT2 := Lib.hid DT2
        have HHLN := Lib.hid HLN
        have x0 : wC.cell? ⟨w.heap.size, 0, none⟩ = some (.int .i64 p0) := by rw [cell_of XC.out]; rfl
        have x1 : wC.cell? ⟨w.heap.size, 1, none⟩ = some (.int .i64 p1) := by rw [cell_of XC.out]; rfl
        have x2 : wC.cell? ⟨w.heap.size, 2, none⟩ = some (.int .i64 p2) := by rw [cell_of XC.out]; rfl
        clear po2 GX DT2 HLN PAT PR3
        go_wp2_with fail
        refine (grow_any p0 p1 p2 cap N wC).mono ?_
        rintro e wD ⟨rfl, hbD⟩
        rw [VV.out, GE.out]
        have BD := Lib.hid (BC.out.trans (hbD.mono BC.out.size))
        have RD : Hid (byteRow wD g2 ds) := Lib.hid ((hbD.block g2 (lt_of RC.out)).trans RC.out)
        have XD := Lib.hid ((hbD.block _ (lt_of XC.out)).trans XC.out)
        have PRD := Lib.hid (HPR3.out.below hbD rfl)
        have CV1 := conv_row RD.out N V L2 HHLN.out (by rw [DL.out]; by_cases hcn : cap < N; exact HV3.out hcn; rw [HV2.out (by omega)]; omega) HDT2.out
        have CV2 := conv_plain PRD.out HHLN.out HPAT.out
        generalize strOfNums L2 = SS at CV1 CV2
        have NV : N ≤ V := by
          by_cases hcn : cap < N
          · exact HV3.out hcn
          · rw [HV2.out (by omega)]; omega
        clear x0 x1 x2 hbD RC XC BC HPR3
        by_cases hcn : cap < N
        · have hne1 : ¬ (V = cap) := by omega
          have hne2 : ¬ ((V : Int) = cap) := by omega
          have hne3 : ((V : Int) != (cap : Int)) = true := bne_iff_ne.2 hne2
          have hne4 : (!((V : Int) != (cap : Int))) = false := by rw [hne3]; rfl
          go_wp2_with fail
          go_roundw
          case rel => exact ⟨k + 1, g2, V, ds, L2, by omega, by go_num, by rw [HHLN.out], RD.out, DL.out, DB.out, by rw [HHLN.out]; exact HDT2.out, by rw [HHLN.out]; exact NV, by omega, HG2.out, PRD.out, by rw [HHLN.out]; exact HPAT.out, by rw [HHLN.out]; have := HLL.out; have := HNN.out; have := HZL.out; omega, XD.out, BD.out⟩
          case measure => simp [intOf]; omega
        · have hVc : V = cap := HV2.out (by omega)
          have HVc := Lib.hid hVc
          rw [hVc]
          rw [hVc] at CV1
          clear hVc
          go_wp2_with fail
          go_roundw
          case rel => exact ⟨k + 1, g2, cap, ds, L2, by omega, by go_num, by rw [HHLN.out], RD.out, by rw [← HVc.out]; exact DL.out, DB.out, by rw [HHLN.out]; exact HDT2.out, by rw [HHLN.out, ← HVc.out]; exact NV, by omega, HG2.out, PRD.out, by rw [HHLN.out]; exact HPAT.out, by rw [HHLN.out]; have := HLL.out; have := HNN.out; have := HZL.out; omega, XD.out, BD.out⟩
          case measure => simp [intOf]; omega
      · simp only [Value.slice.injEq] at e
        obtain ⟨rfl, _, rfl⟩ := e
        have fc : f ≤ pc := by omega
        have tc : t ≤ pc := by omega
        obtain ⟨z3, hz3⟩ : ∃ z, (if pc = t then some (⟨pb, 0, none⟩ : Addr) else some ⟨pb, t, none⟩) = z := ⟨_, rfl⟩
        have RS1 : Reads wB .u8 (.slice (some ⟨pb, 0, none⟩) f pc) (L.take f) := P2.out.take f (by have := HNL.out; omega)
        have RS3 : Reads wB .u8 (.slice z3 (n - t) (pc - t)) (L.drop t) := P2.out.dropZ t (by have := HNL.out; omega) z3 (fun h => by rw [← hz3, if_neg (by have := HNL.out; omega)]; simp) _
        have W1 : Below wB.heap.size wB ((wB.alloc (.cells #[(.slice (some ⟨pb, 0, none⟩) f pc), .slice a4 mm c4, (.slice z3 (n - t) (pc - t))] 24)).drew) := ((Below.refl wB.heap.size wB).alloc (Nat.le_refl _) _).drew
        have BB2 := Lib.hid (BB.out.trans (W1.mono BB.out.size))
        have RB2 : Hid (byteRow ((wB.alloc (.cells #[(.slice (some ⟨pb, 0, none⟩) f pc), .slice a4 mm c4, (.slice z3 (n - t) (pc - t))] 24)).drew) g2 ds) := Lib.hid ((W1.block g2 GL).trans RB.out)
        have XB2 := Lib.hid ((W1.block w.heap.size (lt_of XB.out)).trans XB.out)
        have fll : (L.take f ++ z4.take mm ++ L.drop t).length = N := by
          have h1 := HNL.out
          have h2 := HNN.out
          simp only [List.length_append, List.length_take, List.length_drop] at h2 ⊢
          omega
        have HC := Lib.hid (concat3 RS1 Z4B.out RS3 (by rw [fll]; omega))
        have HFLL := Lib.hid fll
        clear RS1 RS3 W1 fll
        go_wp2_with fail
        go_region_with ((go_at_call 19; go_loud (refine HC.out.mono ?_); rintro e wC ⟨pl2, rfl, po2, hbC⟩))
        have BC := Lib.hid (BB2.out.trans (hbC.mono BB2.out.size))
        have RC : Hid (byteRow wC g2 ds) := Lib.hid ((hbC.block g2 (lt_of RB2.out)).trans RB2.out)
        have XC := Lib.hid ((hbC.block _ (lt_of XB2.out)).trans XB2.out)
        have GX := lt_of RB2.out
        rw [HFLL.out] at po2
        have DT2 : ds.take N = L.take f ++ z4.take mm ++ L.drop t := by
          have e1 : cs.take f = L.take f := by rw [← CT.out, List.take_take, Nat.min_eq_left (by omega)]
          rw [DT.out, e1, CT.out]
        have HLN := HFLL.out
        clear hbC HC HFLL RB2 XB2 BB2
        generalize L.take f ++ z4.take mm ++ L.drop t = L2 at *
        have PAT := PlainAt.of po2 GX
        have PR3 : Reads wC .u8 pl2 L2 := Reads.own (by rw [HLN]; exact po2) (by omega)
        obtain ⟨qa, qc, rfl, hq1, hq2⟩ := ownsRow_lt2 po2
        have HPR3 := Lib.hid PR3
        have HPAT := Lib.hid PAT
        have HDT2 := Lib.hid DT2
        have HHLN := Lib.hid HLN
        have x0 : wC.cell? ⟨w.heap.size, 0, none⟩ = some (.int .i64 p0) := by rw [cell_of XC.out]; rfl
        have x1 : wC.cell? ⟨w.heap.size, 1, none⟩ = some (.int .i64 p1) := by rw [cell_of XC.out]; rfl
        have x2 : wC.cell? ⟨w.heap.size, 2, none⟩ = some (.int .i64 p2) := by rw [cell_of XC.out]; rfl
        clear po2 GX DT2 HLN PAT PR3
        go_wp2_with fail
        refine (grow_any p0 p1 p2 cap N wC).mono ?_
        rintro e wD ⟨rfl, hbD⟩
        rw [VV.out, GE.out]
        have BD := Lib.hid (BC.out.trans (hbD.mono BC.out.size))
        have RD : Hid (byteRow wD g2 ds) := Lib.hid ((hbD.block g2 (lt_of RC.out)).trans RC.out)
        have XD := Lib.hid ((hbD.block _ (lt_of XC.out)).trans XC.out)
        have PRD := Lib.hid (HPR3.out.below hbD rfl)
        have CV1 := conv_row RD.out N V L2 HHLN.out (by rw [DL.out]; by_cases hcn : cap < N; exact HV3.out hcn; rw [HV2.out (by omega)]; omega) HDT2.out
        have CV2 := conv_plain PRD.out HHLN.out HPAT.out
        generalize strOfNums L2 = SS at CV1 CV2
        have NV : N ≤ V := by
          by_cases hcn : cap < N
          · exact HV3.out hcn
          · rw [HV2.out (by omega)]; omega
        clear x0 x1 x2 hbD RC XC BC HPR3
        by_cases hcn : cap < N
        · have hne1 : ¬ (V = cap) := by omega
          have hne2 : ¬ ((V : Int) = cap) := by omega
          have hne3 : ((V : Int) != (cap : Int)) = true := bne_iff_ne.2 hne2
          have hne4 : (!((V : Int) != (cap : Int))) = false := by rw [hne3]; rfl
          go_wp2_with fail
          go_roundw
          case rel => exact ⟨k + 1, g2, V, ds, L2, by omega, by go_num, by rw [HHLN.out], RD.out, DL.out, DB.out, by rw [HHLN.out]; exact HDT2.out, by rw [HHLN.out]; exact NV, by omega, HG2.out, PRD.out, by rw [HHLN.out]; exact HPAT.out, by rw [HHLN.out]; have := HLL.out; have := HNN.out; have := HZL.out; omega, XD.out, BD.out⟩
          case measure => simp [intOf]; omega
        · have hVc : V = cap := HV2.out (by omega)
          have HVc := Lib.hid hVc
          rw [hVc]
          rw [hVc] at CV1
          clear hVc
          go_wp2_with fail
          go_roundw
          case rel => exact ⟨k + 1, g2, cap, ds, L2, by omega, by go_num, by rw [HHLN.out], RD.out, by rw [← HVc.out]; exact DL.out, DB.out, by rw [HHLN.out]; exact HDT2.out, by rw [HHLN.out, ← HVc.out]; exact NV, by omega, HG2.out, PRD.out, by rw [HHLN.out]; exact HPAT.out, by rw [HHLN.out]; have := HLL.out; have := HNN.out; have := HZL.out; omega, XD.out, BD.out⟩
          case measure => simp [intOf]; omega
    · go_wp2_with fail
      go_ret
      exact ⟨rfl, hbel⟩

end Go.Proofs.Ytmapdgpdpojjjaa
