/-
  The sort of slots: symMerge of one slot behind. No conditions but bounds.
-/
import Derived.Test.YtiaedonhbafpjaaTopSlabPbj
import Derived.Test.YtiaedonhbafpjaaTopSlabPat
namespace Go.Proofs.Ytiaedonhbafpjaa
open Go.RowKit Go.Shelf Go.Sort Go.Lib
set_option linter.unusedVariables false

set_option maxRecDepth 100000 in
theorem slots220 (f : Nat → Value) : slotsOf 220 f = f 0 :: f 1 :: f 2 :: f 3 :: f 4 :: f 5 :: f 6 :: f 7 :: f 8 :: f 9 :: f 10 :: f 11 :: f 12 :: f 13 :: f 14 :: f 15 :: f 16 :: f 17 :: f 18 :: f 19 :: f 20 :: f 21 :: f 22 :: f 23 :: f 24 :: f 25 :: f 26 :: f 27 :: f 28 :: f 29 :: f 30 :: f 31 :: f 32 :: f 33 :: f 34 :: f 35 :: f 36 :: f 37 :: f 38 :: f 39 :: f 40 :: f 41 :: f 42 :: f 43 :: f 44 :: f 45 :: f 46 :: f 47 :: f 48 :: f 49 :: f 50 :: f 51 :: f 52 :: f 53 :: f 54 :: f 55 :: f 56 :: f 57 :: f 58 :: f 59 :: f 60 :: f 61 :: f 62 :: f 63 :: f 64 :: f 65 :: f 66 :: f 67 :: f 68 :: f 69 :: f 70 :: f 71 :: f 72 :: f 73 :: f 74 :: f 75 :: f 76 :: f 77 :: f 78 :: f 79 :: f 80 :: f 81 :: f 82 :: f 83 :: f 84 :: f 85 :: f 86 :: f 87 :: f 88 :: f 89 :: f 90 :: f 91 :: f 92 :: f 93 :: f 94 :: f 95 :: f 96 :: f 97 :: f 98 :: f 99 :: f 100 :: f 101 :: f 102 :: f 103 :: f 104 :: f 105 :: f 106 :: f 107 :: f 108 :: f 109 :: f 110 :: f 111 :: f 112 :: f 113 :: f 114 :: f 115 :: f 116 :: f 117 :: f 118 :: f 119 :: f 120 :: f 121 :: f 122 :: f 123 :: f 124 :: f 125 :: f 126 :: f 127 :: f 128 :: f 129 :: f 130 :: f 131 :: f 132 :: f 133 :: f 134 :: f 135 :: f 136 :: f 137 :: f 138 :: f 139 :: f 140 :: f 141 :: f 142 :: f 143 :: f 144 :: f 145 :: f 146 :: f 147 :: f 148 :: f 149 :: f 150 :: f 151 :: f 152 :: f 153 :: f 154 :: f 155 :: f 156 :: f 157 :: f 158 :: f 159 :: f 160 :: f 161 :: f 162 :: f 163 :: f 164 :: f 165 :: f 166 :: f 167 :: f 168 :: f 169 :: f 170 :: f 171 :: f 172 :: f 173 :: f 174 :: f 175 :: f 176 :: f 177 :: f 178 :: f 179 :: f 180 :: f 181 :: f 182 :: f 183 :: f 184 :: f 185 :: f 186 :: f 187 :: f 188 :: f 189 :: f 190 :: f 191 :: f 192 :: f 193 :: f 194 :: f 195 :: f 196 :: f 197 :: f 198 :: f 199 :: f 200 :: f 201 :: f 202 :: f 203 :: f 204 :: f 205 :: f 206 :: f 207 :: f 208 :: f 209 :: f 210 :: f 211 :: f 212 :: f 213 :: f 214 :: f 215 :: f 216 :: f 217 :: f 218 :: f 219 :: [] := rfl

set_option maxHeartbeats 8000000 in
set_option maxRecDepth 1000000 in
theorem symM2_any {w : World} {blk N : Nat} (h : SwIn w blk N) (cap a mm b m : Nat) (d : Array Sq) (os : Array Obj) (hd : d.size = N) (ha : a < mm) (hb : mm < b) (hbN : b ≤ N) (h1 : ¬ mm - a = 1) (h2 : b - mm = 1) :
    Calls Try.prog 69 #[.slice (some ⟨blk, 0, none⟩) N cap, .int .i64 (a : Int), .int .i64 (mm : Int), .int .i64 (b : Int), .func (.func 40) #[] #[]] (SW w blk m d os) (SwPost w blk N) := by
  have HI := Lib.hid h
  have mixed : Try.prog.follows .mixedOrders = true := by kernel_rfl
  have hsz := h.sz
  clear h
  go_enter Try.func69, Try.ntmps69
  have e1 : (b : Int) - (mm : Int) = 1 := by omega
  have e2 : ¬ (mm : Int) - (a : Int) = 1 := by omega
  go_wp2_with fail
  refine wp_loop_framed 220 (fun g f wr => ∃ (i j m : Nat) (d : Array Sq) (os : Array Obj), g = j - i ∧ f 0 = .slice (some ⟨blk, 0, none⟩) N cap ∧ f 1 = .int .i64 (a : Int) ∧ f 2 = .int .i64 (mm : Int) ∧ f 3 = .int .i64 (b : Int) ∧ f 4 = .func (.func 40) #[] #[] ∧ f 14 = .int .i64 (i : Int) ∧ f 15 = .int .i64 (j : Int) ∧ a ≤ i ∧ i ≤ j ∧ j ≤ mm ∧ d.size = N ∧ wr = SW w blk m d os) _ _ (by kernel_rfl) (mm - a) ⟨a, mm, m, d, os, rfl, rfl, rfl, rfl, rfl, rfl, rfl, rfl, Nat.le_refl _, by omega, Nat.le_refl _, hd, rfl⟩ ?_
  intro g f wr ⟨i, j, m, d, os, hg, f0, f1, f2, f3, f4, f14, f15, hi1, hij, hj2, hd, hwr⟩ J K hJ hK
  subst hwr
  rw [slots220]
  rw [f0, f1, f2, f3, f4, f14, f15]
  clear f0 f1 f2 f3 f4 f14 f15
  by_cases hlt : i < j
  · have hlt' : (i : Int) < (j : Int) := by omega
    obtain ⟨hh, ehh⟩ : ∃ hh : Nat, (i + j) / 2 = hh := ⟨_, rfl⟩
    have eh : ((i : Int) + (j : Int)) / 2 = (hh : Int) := by omega
    have hh1 : i ≤ hh := by omega
    have hh2 : hh < j := by omega
    obtain ⟨c0, c1, c2, c3⟩ := HI.out.reads (m := m) (os := os) hd (i := mm) (by omega)
    obtain ⟨d0, d1, d2, d3⟩ := HI.out.reads (m := m) (os := os) hd (i := hh) (by omega)
    have CMP := Lib.hid (fun n os' => cmp_grown (x := d[mm]!) (y := d[hh]!) (SW w blk m d os) n os')
    have GR := Lib.hid (fun n os' => sw_grown w blk m n d os os')
    generalize d[mm]! = x at c0 c1 c2 c3 CMP
    generalize d[hh]! = y at d0 d1 d2 d3 CMP
    generalize SW w blk m d os = W at c0 c1 c2 c3 d0 d1 d2 d3 CMP GR ⊢
    generalize Lib.compareInt x.cls y.cls = cv at *
    have z1 : (hh : Int) < (N : Int) := by omega
    have z2 : (mm : Int) < (N : Int) := by omega
    have z3 : hh < N := by omega
    have z4 : mm < N := by omega
    clear ehh
    go_upto_region 17 with fail
    by_cases hc : cv < 0
    · go_quiet_grown (first | (go_at_call 40; exact CMP.out _ _))
      go_wp2_with fail
      refine Handed.intro (hh - i) (by omega) (hJ _ _ _ (by kernel_rfl) ⟨i, hh, _, d, _, rfl, rfl, rfl, rfl, rfl, rfl, rfl, rfl, hi1, by omega, by omega, hd, GR.out _ _⟩)
    · go_quiet_grown (first | (go_at_call 40; exact CMP.out _ _))
      go_wp2_with fail
      refine Handed.intro (j - (hh + 1)) (by omega) (hJ _ _ _ (by kernel_rfl) ⟨hh + 1, j, _, d, _, rfl, rfl, rfl, rfl, rfl, rfl, by first | rfl | go_num, rfl, by omega, by omega, hj2, hd, GR.out _ _⟩)
  · have hlt' : ¬ (i : Int) < (j : Int) := by omega
    have hib : i ≤ mm := by omega
    clear hij hj2 hlt
    go_wp2_with fail
    clear hJ
    refine wp_loop_framed 220 (fun g f wr => ∃ (k m : Nat) (d : Array Sq) (os : Array Obj), g = k ∧ f 0 = .slice (some ⟨blk, 0, none⟩) N cap ∧ f 14 = .int .i64 (i : Int) ∧ f 17 = .int .i64 (k : Int) ∧ i ≤ k ∧ k ≤ mm ∧ d.size = N ∧ wr = SW w blk m d os) _ _ (by kernel_rfl) mm ⟨mm, m, d, os, rfl, rfl, rfl, rfl, hib, Nat.le_refl _, hd, rfl⟩ ?_
    clear hg hd hi1
    intro g2 f wr ⟨k, m, d, os, hg, f0, f14, f17, hk1, hk2, hd, hwr⟩ J2 K2 hJ2 hK2
    subst hwr
    rw [slots220]
    rw [f0, f14, f17]
    clear f0 f14 f17
    by_cases hkl : i < k
    · obtain ⟨kp, rfl⟩ : ∃ kp, k = kp + 1 := ⟨k - 1, by omega⟩
      have hkl' : (i : Int) < (kp : Int) + 1 := by omega
      have kw : IntKind.i64.wrap (kp : Int) = (kp : Int) := by rw [IntKind.wrap_i64]; omega
      have kz : (kp : Int) + 1 < (N : Int) := by omega
      have kz1 : (kp : Int) < (N : Int) := by omega
      have kp0 : (0 : Int) ≤ (kp : Int) + 1 := by omega
      have ke0 : ((kp : Int) + 1).toNat = kp + 1 := by omega
      have HH := HI.out.holds (m := m) (os := os) hd
      obtain ⟨xa, hxa⟩ : ∃ x, d[kp + 1]! = x := ⟨_, rfl⟩
      obtain ⟨xb, hxb⟩ : ∃ x, d[kp]! = x := ⟨_, rfl⟩
      obtain ⟨c0, c1, c2, c3⟩ := slot_cells HH (i := kp) (by omega)
      obtain ⟨d0, d1, d2, d3⟩ := slot_cells HH (i := kp + 1) (by omega)
      obtain ⟨_, _, _, _, p0, p1, p2, p3, f0, f1, f2, f3⟩ := slot_ats (F := flatK Sq.cells 4 d) HH (i := kp + 1) (by rw [size_flatK]; omega)
      obtain ⟨h2, DN⟩ := swap_facts HI.out m d os hd (kp + 1) (kp) (by omega) (by omega)
      obtain ⟨u0, u1, u2, u3, q0, q1, q2, q3, k0, k1, k2, k3⟩ := slot_ats h2 (i := kp) (by rw [size_setMany, size_flatK]; omega)
      rw [hxa, hxb] at DN
      rw [hxb] at q0 q1 q2 q3 k0 k1 k2 k3
      rw [hxb] at c0 c1 c2 c3
      rw [hxa] at d0 d1 d2 d3
      have DONE := Lib.hid DN
      clear DN h2 p0 p1 p2 p3
      generalize SW w blk m d os = W at c0 c1 c2 c3 d0 d1 d2 d3 f0 f1 f2 f3 q0 q1 q2 q3 k0 k1 k2 k3 DONE ⊢
      clear HH hxa hxb hd
      have zp1 : (((kp + 1 : Nat)) : Int) < (N : Int) := by omega
      have zp2 : (((kp : Nat)) : Int) < (N : Int) := by omega
      go_upto_region 23 with fail
      have S0 : (fun y : World => y = W.drew) W.drew := rfl
      have b0 : ∀ y : WIn (fun y : World => y = W.drew), y.w.cell? ⟨blk, (kp) * 4, none⟩ = some (.int .i64 xb.cls) := fun y => by rw [y.h]; exact c0
      have a0 : ∀ y : WIn (fun y : World => y = W.drew), y.w.cell? ⟨blk, (kp + 1) * 4, none⟩ = some (.int .i64 xa.cls) := fun y => by rw [y.h]; exact d0
      have b1 : ∀ y : WIn (fun y : World => y = W.drew), y.w.cell? ⟨blk, (kp) * 4 + 1, none⟩ = some (.int .i64 xb.no) := fun y => by rw [y.h]; exact c1
      have a1 : ∀ y : WIn (fun y : World => y = W.drew), y.w.cell? ⟨blk, (kp + 1) * 4 + 1, none⟩ = some (.int .i64 xa.no) := fun y => by rw [y.h]; exact d1
      have b2 : ∀ y : WIn (fun y : World => y = W.drew), y.w.cell? ⟨blk, (kp) * 4 + 2, none⟩ = some (.int .i64 xb.at') := fun y => by rw [y.h]; exact c2
      have a2 : ∀ y : WIn (fun y : World => y = W.drew), y.w.cell? ⟨blk, (kp + 1) * 4 + 2, none⟩ = some (.int .i64 xa.at') := fun y => by rw [y.h]; exact d2
      have b3 : ∀ y : WIn (fun y : World => y = W.drew), y.w.cell? ⟨blk, (kp) * 4 + 3, none⟩ = some (.int .i64 xb.gen) := fun y => by rw [y.h]; exact c3
      have a3 : ∀ y : WIn (fun y : World => y = W.drew), y.w.cell? ⟨blk, (kp + 1) * 4 + 3, none⟩ = some (.int .i64 xa.gen) := fun y => by rw [y.h]; exact d3
      haveI ne : Nonempty (WIn (fun y : World => y = W.drew)) := ⟨⟨W.drew, S0⟩⟩
      refine wp_normal ?_
      refine wp_region_plan 15 (fun y : World => y = W.drew) rfl ?_
      refine wpN_pure [0, 1, 2, 3, 4, 5, 6, 7, 8, 10, 11, 12] (by kernel_rfl) (by kernel_rfl) (by kernel_rfl) (fun _ _ _ _ _ h => h) (fun _ => S0) ?_
      simp only [pick, List.map_cons, List.map_nil, List.getElem?_cons_succ, List.getElem?_cons_zero, Option.getD_some]
      repeat (go_big_quiet_step (fail))
      refine wpQuiet_nil ?_
      refine wpN_segX [9, 13, 15] [9, 13] (by kernel_rfl) (by kernel_rfl) (by kernel_rfl) (by kernel_rfl) (by decide) (fun _ _ _ _ _ h => h) S0 ?_
      simp only [pick, List.map_cons, List.map_nil, List.getElem?_cons_succ, List.getElem?_cons_zero, Option.getD_some]
      repeat (go_big_quiet_step (fail))
      refine wpQuiet_nil ?_
      clear b0 b1 b2 b3 a0 a1 a2 a3 ne c0 c1 c2 c3
      refine wpN_pure [14] (by kernel_rfl) (by kernel_rfl) (by kernel_rfl) (fun _ _ _ _ _ h => h) (fun _ => S0) ?_
      simp only [pick, List.map_cons, List.map_nil, List.getElem?_cons_succ, List.getElem?_cons_zero, Option.getD_some]
      repeat (go_big_quiet_step (fail))
      refine wpQuiet_nil ?_
      refine wpN_one 15 _ (by kernel_rfl) rfl ?_
      refine NextAt.free (by kernel_rfl) ?_
      intro K hK
      go_simp
      refine hK _ _ ?_
      clear hK K
      have eX : put4 W.drew blk (kp + 1) xb = ((((W.setCell ⟨blk, (kp + 1) * 4, none⟩ (.int .i64 xb.cls)).setCell ⟨blk, (kp + 1) * 4 + 1, none⟩ (.int .i64 xb.no)).setCell ⟨blk, (kp + 1) * 4 + 2, none⟩ (.int .i64 xb.at')).setCell ⟨blk, (kp + 1) * 4 + 3, none⟩ (.int .i64 xb.gen)).drew := rfl
      rw [← eX]
      clear eX
      generalize put4 W.drew blk (kp + 1) xb = W1 at *
      clear S0 d0 d1 d2 d3 f0 f1 f2 f3
      refine wpN_pure [16] (by kernel_rfl) (by kernel_rfl) (by kernel_rfl) (fun _ _ _ _ _ h => h) (fun h => by cases h) ?_
      simp only [pick, List.map_cons, List.map_nil, List.getElem?_cons_succ, List.getElem?_cons_zero, Option.getD_some]
      repeat (go_big_quiet_step (fail))
      refine wpQuiet_nil ?_
      refine wpN_one 17 _ (by kernel_rfl) rfl ?_
      refine NextAt.free (by kernel_rfl) ?_
      intro K hK
      go_simp
      refine hK _ _ ?_
      clear hK K
      refine wpN_done (by kernel_rfl) ?_
      go_wp2_with fail
      refine Handed.intro kp (by omega) (hJ2 _ _ _ (by kernel_rfl) ⟨kp, m + 1, _, os, rfl, rfl, rfl, by first | rfl | go_num, by omega, by omega, DONE.out.2, DONE.out.1⟩)
    · have hkl' : ¬ (i : Int) < (k : Int) := by omega
      go_wp2_with fail
      go_end0
      exact ⟨rfl, m, d, os, hd, rfl⟩

end Go.Proofs.Ytiaedonhbafpjaa
