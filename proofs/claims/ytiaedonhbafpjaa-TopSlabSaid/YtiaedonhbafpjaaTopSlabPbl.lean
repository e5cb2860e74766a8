/-
  The sort of slots: symMerge, the long way. No conditions but bounds.
-/
import Derived.Test.YtiaedonhbafpjaaTopSlabPbk
namespace Go.Proofs.Ytiaedonhbafpjaa
open Go.RowKit Go.Shelf Go.Sort Go.Lib
set_option linter.unusedVariables false

set_option maxHeartbeats 8000000 in
set_option maxRecDepth 1000000 in
theorem symM3_any {w : World} {blk N : Nat} (h : SwIn w blk N) (cap a mm b m : Nat) (d : Array Sq) (os : Array Obj) (hd : d.size = N) (ha : a < mm) (hb : mm < b) (hbN : b ≤ N) (h1 : ¬ mm - a = 1) (h2 : ¬ b - mm = 1)
    (IH : ∀ (a1 m1 b1 m : Nat) (d : Array Sq) (os : Array Obj), b1 - a1 < b - a → d.size = N → a1 < m1 → m1 < b1 → b1 ≤ N → Calls Try.prog 69 #[.slice (some ⟨blk, 0, none⟩) N cap, .int .i64 (a1 : Int), .int .i64 (m1 : Int), .int .i64 (b1 : Int), .func (.func 40) #[] #[]] (SW w blk m d os) (SwPost w blk N)) :
    Calls Try.prog 69 #[.slice (some ⟨blk, 0, none⟩) N cap, .int .i64 (a : Int), .int .i64 (mm : Int), .int .i64 (b : Int), .func (.func 40) #[] #[]] (SW w blk m d os) (SwPost w blk N) := by
  have HI := Lib.hid h
  have RT := Lib.hid (fun (a1 m1 b1 m : Nat) (d : Array Sq) (os : Array Obj) (hd : d.size = N) (ha : a1 < m1) (hb : m1 < b1) (hbN : b1 ≤ N) => rotR_any h cap (.func (.func 40) #[] #[]) a1 m1 b1 m d os hd ha hb hbN)
  have HIH := Lib.hid IH
  have mixed : Try.prog.follows .mixedOrders = true := by kernel_rfl
  have hsz := h.sz
  clear h IH
  go_enter Try.func69, Try.ntmps69
  have e1 : ¬ (mm : Int) - (a : Int) = 1 := by omega
  have e2 : ¬ (b : Int) - (mm : Int) = 1 := by omega
  obtain ⟨M, eM⟩ : ∃ M : Nat, (a + b) / 2 = M := ⟨_, rfl⟩
  have eM2 : ((a : Int) + (b : Int)) / 2 = (M : Int) := by omega
  have hM1 : a < M := by omega
  have hM2 : M < b := by omega
  have hM3 : 2 * M ≤ a + b := by omega
  have hM4 : a + b ≤ 2 * M + 1 := by omega
  clear eM
  obtain ⟨nn, enn⟩ : ∃ nn : Nat, M + mm = nn := ⟨_, rfl⟩
  have en1 : (M : Int) + (mm : Int) = (nn : Int) := by omega
  obtain ⟨pp, epp⟩ : ∃ pp : Nat, nn = pp + 1 := ⟨nn - 1, by omega⟩
  have ep1 : (nn : Int) - 1 = (pp : Int) := by omega
  have hp1 : pp < nn := by omega
  have hp2 : nn ≤ pp + 1 := by omega
  clear epp
  go_upto_if 140 with fail
  refine wp_cut_framed 220 (fun f wx => ∃ s r : Nat, f 0 = .slice (some ⟨blk, 0, none⟩) N cap ∧ f 1 = .int .i64 (a : Int) ∧ f 2 = .int .i64 (mm : Int) ∧ f 3 = .int .i64 (b : Int) ∧ f 4 = .func (.func 40) #[] #[] ∧ f 18 = .int .i64 (M : Int) ∧ f 19 = .int .i64 (nn : Int) ∧ f 20 = .int .i64 (s : Int) ∧ f 21 = .int .i64 (r : Int) ∧ a ≤ s ∧ s ≤ r ∧ r < nn ∧ nn ≤ b + s ∧ r ≤ N ∧ wx = SW w blk m d os) _ _ ?_ ?_
  · intro J K hJ hK
    by_cases hgt : M < mm
    · have hgt' : (M : Int) < (mm : Int) := by omega
      go_wp2_with fail
      refine Met.intro (hJ _ _ (by kernel_rfl) ⟨nn - b, M, rfl, rfl, rfl, rfl, rfl, rfl, rfl, by first | rfl | go_num, rfl, by omega, by omega, by omega, by omega, by omega, rfl⟩)
    · have hgt' : ¬ (M : Int) < (mm : Int) := by omega
      go_wp2_with fail
      refine Met.intro (hJ _ _ (by kernel_rfl) ⟨a, mm, rfl, rfl, rfl, rfl, rfl, rfl, rfl, rfl, rfl, by omega, by omega, by omega, by omega, by omega, rfl⟩)
  intro f wx ⟨s, r, f0, f1, f2, f3, f4, f18, f19, f20, f21, hs1, hsr, hr1, hs2, hrN, hwx⟩
  subst hwx
  rw [slots220]
  rw [f0, f1, f2, f3, f4, f18, f19, f20, f21]
  clear f0 f1 f2 f3 f4 f18 f19 f20 f21
  go_wp2_with fail
  refine wp_loop_framed 220 (fun g f wr => ∃ (i j m : Nat) (d : Array Sq) (os : Array Obj), g = j - i ∧ f 0 = .slice (some ⟨blk, 0, none⟩) N cap ∧ f 1 = .int .i64 (a : Int) ∧ f 2 = .int .i64 (mm : Int) ∧ f 3 = .int .i64 (b : Int) ∧ f 4 = .func (.func 40) #[] #[] ∧ f 18 = .int .i64 (M : Int) ∧ f 19 = .int .i64 (nn : Int) ∧ f 20 = .int .i64 (i : Int) ∧ f 21 = .int .i64 (j : Int) ∧ f 22 = .int .i64 (pp : Int) ∧ s ≤ i ∧ i ≤ j ∧ j ≤ r ∧ d.size = N ∧ wr = SW w blk m d os) _ _ (by kernel_rfl) (r - s) ⟨s, r, m, d, os, rfl, rfl, rfl, rfl, rfl, rfl, rfl, rfl, rfl, rfl, rfl, Nat.le_refl _, hsr, Nat.le_refl _, hd, rfl⟩ ?_
  clear f hd
  intro g f wr ⟨i, j, m, d, os, hg, f0, f1, f2, f3, f4, f18, f19, f20, f21, f22, hi1, hij, hj2, hd, hwr⟩ J K hJ hK
  subst hwr
  rw [slots220]
  rw [f0, f1, f2, f3, f4, f18, f19, f20, f21, f22]
  clear f0 f1 f2 f3 f4 f18 f19 f20 f21 f22
  by_cases hlt : i < j
  · have hlt' : (i : Int) < (j : Int) := by omega
    obtain ⟨hh, ehh⟩ : ∃ hh : Nat, (i + j) / 2 = hh := ⟨_, rfl⟩
    have eh : ((i : Int) + (j : Int)) / 2 = (hh : Int) := by omega
    have hh1 : i ≤ hh := by omega
    have hh2 : hh < j := by omega
    obtain ⟨pc, epc⟩ : ∃ pc : Nat, pp - hh = pc := ⟨_, rfl⟩
    have ep : (pp : Int) - (hh : Int) = (pc : Int) := by omega
    obtain ⟨c0, c1, c2, c3⟩ := HI.out.reads (m := m) (os := os) hd (i := pc) (by omega)
    obtain ⟨d0, d1, d2, d3⟩ := HI.out.reads (m := m) (os := os) hd (i := hh) (by omega)
    have CMP := Lib.hid (fun n os' => cmp_grown (x := d[pc]!) (y := d[hh]!) (SW w blk m d os) n os')
    have GR := Lib.hid (fun n os' => sw_grown w blk m n d os os')
    generalize d[pc]! = x at c0 c1 c2 c3 CMP
    generalize d[hh]! = y at d0 d1 d2 d3 CMP
    generalize SW w blk m d os = W at c0 c1 c2 c3 d0 d1 d2 d3 CMP GR ⊢
    generalize Lib.compareInt x.cls y.cls = cv at *
    have z1 : (hh : Int) < (N : Int) := by omega
    have z2 : (pc : Int) < (N : Int) := by omega
    have z3 : hh < N := by omega
    have z4 : pc < N := by omega
    have kw : IntKind.i64.wrap (pc : Int) = (pc : Int) := by rw [IntKind.wrap_i64]; omega
    clear ehh epc
    go_upto_region 35 with fail
    by_cases hc : cv < 0
    · go_quiet_grown (first | (go_at_call 40; exact CMP.out _ _))
      go_wp2_with fail
      refine Handed.intro (hh - i) (by omega) (hJ _ _ _ (by kernel_rfl) ⟨i, hh, _, d, _, rfl, rfl, rfl, rfl, rfl, rfl, rfl, rfl, rfl, rfl, rfl, hi1, by omega, by omega, hd, GR.out _ _⟩)
    · go_quiet_grown (first | (go_at_call 40; exact CMP.out _ _))
      go_wp2_with fail
      refine Handed.intro (j - (hh + 1)) (by omega) (hJ _ _ _ (by kernel_rfl) ⟨hh + 1, j, _, d, _, rfl, rfl, rfl, rfl, rfl, rfl, rfl, rfl, by first | rfl | go_num, rfl, rfl, by omega, by omega, hj2, hd, GR.out _ _⟩)
  · have hlt' : ¬ (i : Int) < (j : Int) := by omega
    have hib : i ≤ r := by omega
    clear hij hj2 hlt hJ hg
    obtain ⟨en, een⟩ : ∃ en : Nat, nn - i = en := ⟨_, rfl⟩
    have een2 : (nn : Int) - (i : Int) = (en : Int) := by omega
    have hen : en ≤ b := by omega
    clear een
    go_upto_region 39 with fail
    refine wp_cut_framed 220 (fun f wx => f 0 = .slice (some ⟨blk, 0, none⟩) N cap ∧ f 1 = .int .i64 (a : Int) ∧ f 2 = .int .i64 (mm : Int) ∧ f 3 = .int .i64 (b : Int) ∧ f 4 = .func (.func 40) #[] #[] ∧ f 18 = .int .i64 (M : Int) ∧ f 20 = .int .i64 (i : Int) ∧ f 24 = .int .i64 (en : Int) ∧ f 185 = .bool (decide (i < mm ∧ mm < en)) ∧ wx = SW w blk m d os) _ _ ?_ ?_
    · intro J1 K1 hJ1 hK1
      by_cases c1 : i < mm
      · have c1' : (i : Int) < (mm : Int) := by omega
        by_cases c2 : mm < en
        · have c2' : (mm : Int) < (en : Int) := by omega
          go_wp2_with fail
          refine Met.intro (hJ1 _ _ (by kernel_rfl) ⟨rfl, rfl, rfl, rfl, rfl, rfl, rfl, rfl, by first | rfl | simp [c1, c2], rfl⟩)
        · have c2' : ¬ (mm : Int) < (en : Int) := by omega
          go_wp2_with fail
          refine Met.intro (hJ1 _ _ (by kernel_rfl) ⟨rfl, rfl, rfl, rfl, rfl, rfl, rfl, rfl, by first | rfl | simp [c1, c2], rfl⟩)
      · have c1' : ¬ (i : Int) < (mm : Int) := by omega
        go_wp2_with fail
        refine Met.intro (hJ1 _ _ (by kernel_rfl) ⟨rfl, rfl, rfl, rfl, rfl, rfl, rfl, rfl, by first | rfl | simp [c1], rfl⟩)
    intro f wx ⟨f0, f1, f2, f3, f4, f18, f20, f24, fb, hwx⟩
    subst hwx
    rw [slots220]
    rw [f0, f1, f2, f3, f4, f18, f20, f24, fb]
    clear f0 f1 f2 f3 f4 f18 f20 f24 fb
    go_upto_if 185 with fail
    refine wp_cut_framed 220 (fun f wx => f 0 = .slice (some ⟨blk, 0, none⟩) N cap ∧ f 1 = .int .i64 (a : Int) ∧ f 2 = .int .i64 (mm : Int) ∧ f 3 = .int .i64 (b : Int) ∧ f 4 = .func (.func 40) #[] #[] ∧ f 18 = .int .i64 (M : Int) ∧ f 20 = .int .i64 (i : Int) ∧ f 24 = .int .i64 (en : Int) ∧ ∃ (m : Nat) (d : Array Sq) (os : Array Obj), d.size = N ∧ wx = SW w blk m d os) _ _ ?_ ?_
    · intro J1 K1 hJ1 hK1
      by_cases c1 : i < mm ∧ mm < en
      · have C := Lib.hid (RT.out i mm en m d os hd c1.1 c1.2 (by omega))
        have c1d : decide (i < mm ∧ mm < en) = true := decide_eq_true c1
        rw [c1d]
        clear c1d
        go_wp2_with fail
        refine C.out.mono ?_
        rintro e w2 ⟨rfl, m2, d2, os2, hd2, rfl⟩
        clear C
        go_wp2_with fail
        refine Met.intro (hJ1 _ _ (by kernel_rfl) ⟨rfl, rfl, rfl, rfl, rfl, rfl, rfl, rfl, m2, d2, os2, hd2, rfl⟩)
      · have c1d : decide (i < mm ∧ mm < en) = false := decide_eq_false c1
        rw [c1d]
        clear c1d
        go_wp2_with fail
        refine Met.intro (hJ1 _ _ (by kernel_rfl) ⟨rfl, rfl, rfl, rfl, rfl, rfl, rfl, rfl, m, d, os, hd, rfl⟩)
    clear hd
    intro f wx ⟨f0, f1, f2, f3, f4, f18, f20, f24, m, d, os, hd, hwx⟩
    subst hwx
    rw [slots220]
    rw [f0, f1, f2, f3, f4, f18, f20, f24]
    clear f0 f1 f2 f3 f4 f18 f20 f24
    go_upto_region 41 with fail
    refine wp_cut_framed 220 (fun f wx => f 0 = .slice (some ⟨blk, 0, none⟩) N cap ∧ f 1 = .int .i64 (a : Int) ∧ f 2 = .int .i64 (mm : Int) ∧ f 3 = .int .i64 (b : Int) ∧ f 4 = .func (.func 40) #[] #[] ∧ f 18 = .int .i64 (M : Int) ∧ f 20 = .int .i64 (i : Int) ∧ f 24 = .int .i64 (en : Int) ∧ f 199 = .bool (decide (a < i ∧ i < M)) ∧ wx = SW w blk m d os) _ _ ?_ ?_
    · intro J1 K1 hJ1 hK1
      by_cases c1 : a < i
      · have c1' : (a : Int) < (i : Int) := by omega
        by_cases c2 : i < M
        · have c2' : (i : Int) < (M : Int) := by omega
          go_wp2_with fail
          refine Met.intro (hJ1 _ _ (by kernel_rfl) ⟨rfl, rfl, rfl, rfl, rfl, rfl, rfl, rfl, by first | rfl | simp [c1, c2], rfl⟩)
        · have c2' : ¬ (i : Int) < (M : Int) := by omega
          go_wp2_with fail
          refine Met.intro (hJ1 _ _ (by kernel_rfl) ⟨rfl, rfl, rfl, rfl, rfl, rfl, rfl, rfl, by first | rfl | simp [c1, c2], rfl⟩)
      · have c1' : ¬ (a : Int) < (i : Int) := by omega
        go_wp2_with fail
        refine Met.intro (hJ1 _ _ (by kernel_rfl) ⟨rfl, rfl, rfl, rfl, rfl, rfl, rfl, rfl, by first | rfl | simp [c1], rfl⟩)
    intro f wx ⟨f0, f1, f2, f3, f4, f18, f20, f24, fb, hwx⟩
    subst hwx
    rw [slots220]
    rw [f0, f1, f2, f3, f4, f18, f20, f24, fb]
    clear f0 f1 f2 f3 f4 f18 f20 f24 fb
    go_upto_if 199 with fail
    refine wp_cut_framed 220 (fun f wx => f 0 = .slice (some ⟨blk, 0, none⟩) N cap ∧ f 1 = .int .i64 (a : Int) ∧ f 2 = .int .i64 (mm : Int) ∧ f 3 = .int .i64 (b : Int) ∧ f 4 = .func (.func 40) #[] #[] ∧ f 18 = .int .i64 (M : Int) ∧ f 20 = .int .i64 (i : Int) ∧ f 24 = .int .i64 (en : Int) ∧ ∃ (m : Nat) (d : Array Sq) (os : Array Obj), d.size = N ∧ wx = SW w blk m d os) _ _ ?_ ?_
    · intro J1 K1 hJ1 hK1
      by_cases c1 : a < i ∧ i < M
      · have C := Lib.hid (HIH.out a i M m d os (by omega) hd c1.1 c1.2 (by omega))
        have c1d : decide (a < i ∧ i < M) = true := decide_eq_true c1
        rw [c1d]
        clear c1d
        go_wp2_with fail
        refine C.out.mono ?_
        rintro e w2 ⟨rfl, m2, d2, os2, hd2, rfl⟩
        clear C
        go_wp2_with fail
        refine Met.intro (hJ1 _ _ (by kernel_rfl) ⟨rfl, rfl, rfl, rfl, rfl, rfl, rfl, rfl, m2, d2, os2, hd2, rfl⟩)
      · have c1d : decide (a < i ∧ i < M) = false := decide_eq_false c1
        rw [c1d]
        clear c1d
        go_wp2_with fail
        refine Met.intro (hJ1 _ _ (by kernel_rfl) ⟨rfl, rfl, rfl, rfl, rfl, rfl, rfl, rfl, m, d, os, hd, rfl⟩)
    clear hd
    intro f wx ⟨f0, f1, f2, f3, f4, f18, f20, f24, m, d, os, hd, hwx⟩
    subst hwx
    rw [slots220]
    rw [f0, f1, f2, f3, f4, f18, f20, f24]
    clear f0 f1 f2 f3 f4 f18 f20 f24
    go_upto_region 43 with fail
    refine wp_cut_framed 220 (fun f wx => f 0 = .slice (some ⟨blk, 0, none⟩) N cap ∧ f 1 = .int .i64 (a : Int) ∧ f 2 = .int .i64 (mm : Int) ∧ f 3 = .int .i64 (b : Int) ∧ f 4 = .func (.func 40) #[] #[] ∧ f 18 = .int .i64 (M : Int) ∧ f 20 = .int .i64 (i : Int) ∧ f 24 = .int .i64 (en : Int) ∧ f 213 = .bool (decide (M < en ∧ en < b)) ∧ wx = SW w blk m d os) _ _ ?_ ?_
    · intro J1 K1 hJ1 hK1
      by_cases c1 : M < en
      · have c1' : (M : Int) < (en : Int) := by omega
        by_cases c2 : en < b
        · have c2' : (en : Int) < (b : Int) := by omega
          go_wp2_with fail
          refine Met.intro (hJ1 _ _ (by kernel_rfl) ⟨rfl, rfl, rfl, rfl, rfl, rfl, rfl, rfl, by first | rfl | simp [c1, c2], rfl⟩)
        · have c2' : ¬ (en : Int) < (b : Int) := by omega
          go_wp2_with fail
          refine Met.intro (hJ1 _ _ (by kernel_rfl) ⟨rfl, rfl, rfl, rfl, rfl, rfl, rfl, rfl, by first | rfl | simp [c1, c2], rfl⟩)
      · have c1' : ¬ (M : Int) < (en : Int) := by omega
        go_wp2_with fail
        refine Met.intro (hJ1 _ _ (by kernel_rfl) ⟨rfl, rfl, rfl, rfl, rfl, rfl, rfl, rfl, by first | rfl | simp [c1], rfl⟩)
    intro f wx ⟨f0, f1, f2, f3, f4, f18, f20, f24, fb, hwx⟩
    subst hwx
    rw [slots220]
    rw [f0, f1, f2, f3, f4, f18, f20, f24, fb]
    clear f0 f1 f2 f3 f4 f18 f20 f24 fb
    by_cases c1 : M < en ∧ en < b
    · have C := Lib.hid (HIH.out M en b m d os (by omega) hd c1.1 c1.2 hbN)
      have c1d : decide (M < en ∧ en < b) = true := decide_eq_true c1
      rw [c1d]
      clear c1d
      go_wp2_with fail
      refine C.out.mono ?_
      rintro e w2 ⟨rfl, m2, d2, os2, hd2, rfl⟩
      clear C
      go_wp2_with fail
      go_end0
      exact ⟨rfl, m2, d2, os2, hd2, rfl⟩
    · have c1d : decide (M < en ∧ en < b) = false := decide_eq_false c1
      rw [c1d]
      clear c1d
      go_wp2_with fail
      go_end0
      exact ⟨rfl, m, d, os, hd, rfl⟩

end Go.Proofs.Ytiaedonhbafpjaa
