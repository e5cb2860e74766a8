/-
  The walk of RoomMakes. No conditions beyond what every argument has.
-/
import Derived.Test.YteeiohhoccgafaaPairs
import Derived.Test.YteeiohhoccgafaaFits
namespace Go.Proofs.Yteeiohhoccgafaa
open Go.RowKit

set_option maxHeartbeats 4000000 in
set_option maxRecDepth 100000 in
theorem roomMakes (v : Value) (zs : List Int) (have' n : Int) (v4 : Value) (z4 : List Int) (w : World) (h1 : RowIn w .u8 1 v zs) (_ : -9223372036854775808 ≤ have' ∧ have' ≤ 9223372036854775807) (_ : -9223372036854775808 ≤ n ∧ n ≤ 9223372036854775807)
    (h4 : RowIn w .i64 8 v4 z4) (hf : sliceFits v4) :
    Calls Try.prog 4 #[v, .int .i64 have', .int .i64 n, v4] w (LawPost w) := by
  have HB := Lib.hid (show bytes zs from fun z hz => range_u8 (h1.wf z hz))
  have H4 := Lib.hid h4
  have HZ := Lib.hid (fun z hz => range_i64 (h4.wf z hz))
  have hreach := h1.reach
  have HR := Lib.hid h1.reads
  obtain ⟨a0, cap0, rfl, _, _⟩ := h1.reads
  have C0 := CellsAt.new w (Nat.le_refl w.heap.size)
  have T0 := Twins.none (w.alloc (.cells #[.slice none 0 0, .slice none 0 0] 31)) w.heap.size
  have B0 : Below w.heap.size w (w.alloc (.cells #[.slice none 0 0, .slice none 0 0] 31)) := (Below.refl _ _).alloc (Nat.le_refl _) _
  have R0 := Lib.hid (HR.out.below B0 rfl)
  have hC0 := Lib.hid C0
  have hT0 := Lib.hid T0
  have hB0 := Lib.hid B0
  have hs0 : w.heap.size ≤ (w.alloc (.cells #[.slice none 0 0, .slice none 0 0] 31)).heap.size := by simp
  clear C0 T0 B0 h4 h1
  go_enter Try.func4, Try.ntmps4
  go_wp2_with fail
  generalize w.alloc (.cells #[.slice none 0 0, .slice none 0 0] 31) = w1 at *
  refine (twice_any _ zs (zs.length + 3) w1 R0.out HB.out (by omega) (by omega)).mono ?_
  rintro e w2 ⟨g, g', cs, hne, hg, hg', rfl, r1, r2, hcl, hby, b2⟩
  have s2 := b2.size
  have T2 := (hT0.out.below b2).add hne r1 r2 hby (by omega) (by omega) (fun _ _ _ _ h => h.elim)
  have P0 : Pr (addR noR g g' cs.length) (.slice (some ⟨g, 0, none⟩) zs.length ((zs.length : Int) + 3).toNat, .slice (some ⟨g', 0, none⟩) zs.length ((zs.length : Int) + 3).toNat) := by
    rw [hcl]; exact Pr.new noR g g' _ _ (by omega) (by omega)
  have hT2 := Lib.hid T2
  have hC2 := Lib.hid (hC0.out.below b2)
  have hB2 := Lib.hid (hB0.out.trans (b2.mono hs0))
  have hP0 := Lib.hid P0
  clear T2 P0 r1 r2 hby b2 hcl
  generalize addR noR g g' cs.length = R1 at *
  have s2' : w.heap.size ≤ w2.heap.size := by omega
  go_wp2_with fail
  refine (add_any w.heap.size w.heap.size R1 [] _ _ w2 hC2.out hT2.out (by simp) hP0.out (by simp) s2').mono ?_
  rintro e w3 ⟨rfl, c3, t3, b3⟩
  have hC3 := Lib.hid c3
  have hT3 := Lib.hid t3
  have s3 := b3.size
  have hB3 := Lib.hid (hB2.out.trans b3)
  clear c3 t3 b3
  go_wp2_with fail
  refine (made_any n have' w3).mono ?_
  intro e w4 hp
  obtain ⟨x, rfl, m1⟩ := hp.out
  clear hp
  have M1 := Lib.hid m1
  clear m1
  go_wp2_with fail
  refine (madeOf_any n have' w4).mono ?_
  intro e w5 hp
  obtain ⟨y, rfl, m2⟩ := hp.out
  clear hp
  have s4 := M1.out.below.size
  have s5 := m2.below.size
  obtain ⟨R2, sub2, t5, p5⟩ := made_pair (by omega) hT3.out M1.out m2
  have hC5 := Lib.hid ((hC3.out.below M1.out.below).below m2.below)
  have hB5 := Lib.hid ((hB3.out.trans (M1.out.below.mono (by omega))).trans (m2.below.mono (by omega)))
  have hT5 := Lib.hid t5
  have hP5 := Lib.hid p5
  have hP0' := Lib.hid (hP0.out.mono sub2)
  obtain ⟨ys, hyl, hyr, hyb⟩ := Pr.reads (hP0.out.mono sub2) t5 zs.length (by omega)
  have RD := Lib.hid (hyr ((zs.length : Int) + 3).toNat)
  have HY := Lib.hid (show bytes ys from hyb)
  clear t5 p5 m2 hyr hyb sub2 M1 hT3 hC3 hB3
  go_wp2_with fail
  refine (copied_any _ ys have' w5 RD.out.1).mono ?_
  intro e w6 hp
  obtain ⟨u, rfl, m1⟩ := hp.out
  clear hp
  have M1 := Lib.hid m1
  have RD2 := Lib.hid (RD.out.2.below m1.1 rfl)
  clear m1
  go_wp2_with fail
  refine (copiedOf_any _ ys have' w6 RD2.out).mono ?_
  intro e w7 hp
  obtain ⟨v', rfl, m2⟩ := hp.out
  clear hp
  have s6 := M1.out.1.size
  have s7 := m2.1.size
  obtain ⟨R3, sub3, t7, p7⟩ := copy_pair (by omega) HY.out hT5.out M1.out m2
  have hC7 := Lib.hid ((hC5.out.below M1.out.1).below m2.1)
  have hB7 := Lib.hid ((hB5.out.trans (M1.out.1.mono (by omega))).trans (m2.1.mono (by omega)))
  have hT7 := Lib.hid t7
  have hP7 := Lib.hid p7
  have hP5' := Lib.hid (hP5.out.mono sub3)
  have hP0'' := Lib.hid (hP0'.out.mono sub3)
  clear t7 p7 m2 sub3 M1 hT5 hC5 hB5 RD RD2 hP5 hP0'
  go_wp2_with fail
  refine (add_any w.heap.size w.heap.size R3 _ _ _ w7 hC7.out hT7.out ?_ hP5'.out (by simp) (by omega)).mono ?_
  · intro xy hxy
    simp only [List.nil_append, List.mem_singleton] at hxy
    rw [hxy]; exact hP0''.out
  rintro e w8 ⟨rfl, c8, t8, b8⟩
  have s8 := b8.size
  have hC8 := Lib.hid c8
  have hT8 := Lib.hid t8
  have hB8 := Lib.hid (hB7.out.trans b8)
  clear c8 t8 b8
  go_wp2_with fail
  refine (add_any w.heap.size w.heap.size R3 _ _ _ w8 hC8.out hT8.out ?_ hP7.out (by simp) (by omega)).mono ?_
  · intro xy hxy
    simp only [List.nil_append, List.cons_append, List.mem_cons, List.not_mem_nil, or_false] at hxy
    rcases hxy with rfl | rfl
    · exact hP0''.out
    · exact hP5'.out
  rintro e w9 ⟨rfl, c9, t9, b9⟩
  have s9 := b9.size
  have hC9 := Lib.hid c9
  have hT9 := Lib.hid t9
  have hB9 := Lib.hid (hB8.out.trans b9)
  clear c9 t9 b9
  go_wp2_with fail
  refine (poke_any w.heap.size w R3 _ v4 z4 w9 hB9.out H4.out.reads hf HZ.out hC9.out hT9.out ?_).mono ?_
  · intro xy hxy
    simp only [List.nil_append, List.cons_append, List.mem_cons, List.not_mem_nil, or_false] at hxy
    rcases hxy with rfl | rfl | rfl
    · exact hP0''.out
    · exact hP5'.out
    · exact hP7.out
  rintro e w10 ⟨rfl, c10, t10, to⟩
  have hB10 := Lib.hid (hB9.out.trans (to.below (by omega) (fun k hk => by
    obtain ⟨b, o, c, p, hr, h⟩ := hk
    obtain ⟨q1, q2, _, _⟩ := hT9.out.row _ _ _ _ hr
    rcases h with rfl | rfl <;> assumption)))
  clear c10 t10 to
  go_wp2_with fail
  go_ret
  exact ⟨rfl, hB10.out⟩

end Go.Proofs.Yteeiohhoccgafaa
