/-
  The walk of TopSlab. No conditions.
-/
import Derived.Test.YtiaedonhbafpjaaTopSlabPbw
import Derived.Test.YtiaedonhbafpjaaTopSlabPat
import Derived.Test.YtiaedonhbafpjaaTopSlabPac
import Derived.Lib.AppendZeros
import Derived.Deep.LoopGhost
import Derived.Deep.Cut
import Derived.Deep.CutBlock
import Derived.Deep.CutRange
import Derived.Deep.DeepCutAuto
namespace Go.Proofs.Ytiaedonhbafpjaa
open Go.RowKit Go.Shelf
set_option linter.unusedVariables false

set_option maxRecDepth 100000 in
theorem slots327 (f : Nat → Value) : slotsOf 327 f = f 0 :: f 1 :: f 2 :: f 3 :: f 4 :: f 5 :: f 6 :: f 7 :: f 8 :: f 9 :: f 10 :: f 11 :: f 12 :: f 13 :: f 14 :: f 15 :: f 16 :: f 17 :: f 18 :: f 19 :: f 20 :: f 21 :: f 22 :: f 23 :: f 24 :: f 25 :: f 26 :: f 27 :: f 28 :: f 29 :: f 30 :: f 31 :: f 32 :: f 33 :: f 34 :: f 35 :: f 36 :: f 37 :: f 38 :: f 39 :: f 40 :: f 41 :: f 42 :: f 43 :: f 44 :: f 45 :: f 46 :: f 47 :: f 48 :: f 49 :: f 50 :: f 51 :: f 52 :: f 53 :: f 54 :: f 55 :: f 56 :: f 57 :: f 58 :: f 59 :: f 60 :: f 61 :: f 62 :: f 63 :: f 64 :: f 65 :: f 66 :: f 67 :: f 68 :: f 69 :: f 70 :: f 71 :: f 72 :: f 73 :: f 74 :: f 75 :: f 76 :: f 77 :: f 78 :: f 79 :: f 80 :: f 81 :: f 82 :: f 83 :: f 84 :: f 85 :: f 86 :: f 87 :: f 88 :: f 89 :: f 90 :: f 91 :: f 92 :: f 93 :: f 94 :: f 95 :: f 96 :: f 97 :: f 98 :: f 99 :: f 100 :: f 101 :: f 102 :: f 103 :: f 104 :: f 105 :: f 106 :: f 107 :: f 108 :: f 109 :: f 110 :: f 111 :: f 112 :: f 113 :: f 114 :: f 115 :: f 116 :: f 117 :: f 118 :: f 119 :: f 120 :: f 121 :: f 122 :: f 123 :: f 124 :: f 125 :: f 126 :: f 127 :: f 128 :: f 129 :: f 130 :: f 131 :: f 132 :: f 133 :: f 134 :: f 135 :: f 136 :: f 137 :: f 138 :: f 139 :: f 140 :: f 141 :: f 142 :: f 143 :: f 144 :: f 145 :: f 146 :: f 147 :: f 148 :: f 149 :: f 150 :: f 151 :: f 152 :: f 153 :: f 154 :: f 155 :: f 156 :: f 157 :: f 158 :: f 159 :: f 160 :: f 161 :: f 162 :: f 163 :: f 164 :: f 165 :: f 166 :: f 167 :: f 168 :: f 169 :: f 170 :: f 171 :: f 172 :: f 173 :: f 174 :: f 175 :: f 176 :: f 177 :: f 178 :: f 179 :: f 180 :: f 181 :: f 182 :: f 183 :: f 184 :: f 185 :: f 186 :: f 187 :: f 188 :: f 189 :: f 190 :: f 191 :: f 192 :: f 193 :: f 194 :: f 195 :: f 196 :: f 197 :: f 198 :: f 199 :: f 200 :: f 201 :: f 202 :: f 203 :: f 204 :: f 205 :: f 206 :: f 207 :: f 208 :: f 209 :: f 210 :: f 211 :: f 212 :: f 213 :: f 214 :: f 215 :: f 216 :: f 217 :: f 218 :: f 219 :: f 220 :: f 221 :: f 222 :: f 223 :: f 224 :: f 225 :: f 226 :: f 227 :: f 228 :: f 229 :: f 230 :: f 231 :: f 232 :: f 233 :: f 234 :: f 235 :: f 236 :: f 237 :: f 238 :: f 239 :: f 240 :: f 241 :: f 242 :: f 243 :: f 244 :: f 245 :: f 246 :: f 247 :: f 248 :: f 249 :: f 250 :: f 251 :: f 252 :: f 253 :: f 254 :: f 255 :: f 256 :: f 257 :: f 258 :: f 259 :: f 260 :: f 261 :: f 262 :: f 263 :: f 264 :: f 265 :: f 266 :: f 267 :: f 268 :: f 269 :: f 270 :: f 271 :: f 272 :: f 273 :: f 274 :: f 275 :: f 276 :: f 277 :: f 278 :: f 279 :: f 280 :: f 281 :: f 282 :: f 283 :: f 284 :: f 285 :: f 286 :: f 287 :: f 288 :: f 289 :: f 290 :: f 291 :: f 292 :: f 293 :: f 294 :: f 295 :: f 296 :: f 297 :: f 298 :: f 299 :: f 300 :: f 301 :: f 302 :: f 303 :: f 304 :: f 305 :: f 306 :: f 307 :: f 308 :: f 309 :: f 310 :: f 311 :: f 312 :: f 313 :: f 314 :: f 315 :: f 316 :: f 317 :: f 318 :: f 319 :: f 320 :: f 321 :: f 322 :: f 323 :: f 324 :: f 325 :: f 326 :: [] := rfl
/-- The box of an operation. -/
def OpBx (b : Nat) (k x y c : Int) (d : Value) (w : World) : Prop := w.heap[b]? = some (.cells #[.int .i64 k, .int .i64 x, .int .i64 y, .int .i64 c, d] 35 (0, 0))
theorem OpBx.below {b : Nat} {k x y c : Int} {d : Value} {w w' : World} (h : OpBx b k x y c d w) (hb : Below w.heap.size w w') : OpBx b k x y c d w' := (hb.block b (lt_of h)).trans h
theorem OpBx.cells {b : Nat} {k x y c : Int} {d : Value} {w : World} (h : OpBx b k x y c d w) : w.cell? ⟨b, 0, none⟩ = some (.int .i64 k) ∧ w.cell? ⟨b, 1, none⟩ = some (.int .i64 x) ∧ w.cell? ⟨b, 2, none⟩ = some (.int .i64 y) := by
  refine ⟨?_, ?_, ?_⟩ <;> (rw [cell_of h]; rfl)
theorem mod_in {A : Int} {m : Nat} (hm : 0 < m) : ∃ kn : Nat, kn < m ∧ (A.tmod (m : Int) + (m : Int)).tmod (m : Int) = (kn : Int) ∧ A.tmod (m : Int) % (m : Int) = (kn : Int) ∧ -(m : Int) < A.tmod (m : Int) ∧ A.tmod (m : Int) < (m : Int) := by
  have h0 : (0 : Int) < (m : Int) := by omega
  have h1 : A.tmod (m : Int) < (m : Int) := Int.tmod_lt_of_pos A h0
  have h2 : -(m : Int) < A.tmod (m : Int) := by
    have := Int.tmod_lt_of_pos (-A) h0
    rw [Int.neg_tmod] at this
    omega
  have h3 : (A.tmod (m : Int) + (m : Int)).tmod (m : Int) = (A.tmod (m : Int) + (m : Int)) % (m : Int) := Int.tmod_eq_emod_of_nonneg (by omega)
  have h4 := Int.emod_nonneg (A.tmod (m : Int) + (m : Int)) (show (m : Int) ≠ 0 by omega)
  have h5 := Int.emod_lt_of_pos (A.tmod (m : Int) + (m : Int)) h0
  have h6 : (A.tmod (m : Int) + (m : Int)) % (m : Int) = A.tmod (m : Int) % (m : Int) := by simp
  exact ⟨((A.tmod (m : Int) + (m : Int)) % (m : Int)).toNat, by omega, by rw [h3]; omega, by rw [← h6]; omega, h2, h1⟩

set_option maxHeartbeats 8000000 in
set_option maxRecDepth 100000 in
theorem topSlab (vz : Value) (zs : List Int) (sl : Int) (v : Value) (L : List Cl) (w : World) (hzs : RowIn w .i64 8 vz zs) (_ : -9223372036854775808 ≤ sl ∧ sl ≤ 9223372036854775807) (hops : ClsIn w v L ∧ (∀ e ∈ L, e.d.length ≤ 140737488351232) ∧ ∃ a c, v = .slice a L.length c ∧ L.length ≤ c ∧ c ≤ 9223372036854775807)
    (hcaps : ∀ b o n c, v = .slice (some ⟨b, o, none⟩) n c → ∀ k, k < n → ∀ dv, w.cell? ⟨b, o + k * 5 + 4, none⟩ = some dv → capsOk dv) :
    Calls Try.prog 3 #[vz, .int .i64 sl, v] w (LawPost w) := by
  obtain ⟨⟨a, cap, rfl, hll, hcell⟩, hfit, a', cap', hac, hlc, hcm⟩ := hops
  simp only [Value.slice.injEq] at hac
  obtain ⟨rfl, _, rfl⟩ := hac
  have HLC := Lib.hid (And.intro hlc hcm)
  have HC := Lib.hid hcell
  have HF := Lib.hid hfit
  have HK := Lib.hid hcaps
  have HZ := Lib.hid hzs.1
  clear hcell hfit hlc hcm hcaps hzs
  go_enter Try.func3, Try.ntmps3
  go_wp2_with fail
  refine (awakeRoomB_any w).mono ?_
  rintro e w1 ⟨rfl, hb1⟩
  have B1 := Lib.hid hb1
  clear hb1
  go_wp2_with fail
  refine (bigBookB_any w1).mono ?_
  rintro e w2 ⟨bp, rfl, hbk2, hb2⟩
  have B2 := Lib.hid (B1.out.trans (hb2.mono B1.out.size))
  have HBK := Lib.hid hbk2
  clear hb2 hbk2
  go_wp2_with fail
  refine (newCB_any bp sl vz zs w2 _ HBK.out (HZ.out.below B2.out rfl)).mono ?_
  rintro e w3 ⟨hb3, ⟨er, her, rfl⟩ | ⟨c, vc, F, G, rfl, hl1, hcb, hF, hG⟩⟩
  · have B3 := Lib.hid (B2.out.trans (hb3.mono B2.out.size))
    have hE1 : (er != 0) = true := bne_iff_ne.2 her
    have hE2 : (er == 0) = false := by simpa using her
    clear hb3 her
    go_wp2_with fail
    go_ret
    exact ⟨rfl, B3.out⟩
  have B3 := Lib.hid (B2.out.trans (hb3.mono B2.out.size))
  have START : Hid (SlT w c bp 0 (.slice none 0 0) (.slice none 0 0) (.slice none 0 0) w3) := Lib.hid (by
    have h1 := B1.out.size
    have h2 := B2.out.size
    refine ⟨newS zs sl.toNat, vc, .slice none 0 0, F, G, 0, bigStB, [], [], [], ⟨⟨B3.out, hcb, fun k hk => Nat.le_trans h2 (hF k hk), fun k hk => Nat.le_trans h1 (hG k hk), ⟨rfl, Or.inl ⟨rfl, rfl⟩⟩, ⟨rfl, Or.inl ⟨rfl, rfl⟩⟩, ⟨rfl, Or.inl ⟨rfl, rfl⟩⟩, fun e he => (by simp at he), (by simp), fun k hk => (by cases hk), fun k hk => (by cases hk), fun k hk => (by cases hk), fun e he => (by simp at he)⟩, rfl, rfl, newS_law _ _⟩, Nat.le_refl _, Nat.le_refl _⟩)
  clear hb3 hcb hF hG hl1 B3 B2 B1 HBK HZ
  obtain ⟨M, hM⟩ : ∃ M, min L.length 40 = M := ⟨_, rfl⟩
  have HM : Hid (M ≤ L.length ∧ M ≤ 40) := Lib.hid (by omega)
  have HMM := Lib.hid hM
  clear hM
  go_upto_region 11 with fail
  refine wp_cut_framed 327 (fun f wx => ∃ cc, f 7 = .pointer (some ⟨bp, 0, none⟩) ∧ f 8 = .pointer (some ⟨c, 0, none⟩) ∧ f 10 = .slice none 0 0 ∧ f 11 = .slice none 0 0 ∧ f 12 = .slice none 0 0 ∧ f 55 = .slice a M cc ∧ f 56 = .int .i64 (M : Int) ∧ f 57 = .int .i64 0 ∧ wx = w3) _ _ ?_ ?_
  · intro J K' hJ hK
    have hlc := HLC.out
    by_cases h40 : 40 < L.length
    · as_aux_lemma =>
      obtain rfl : M = 40 := by have := HMM.out; omega
      have hmin : min (L.length : Int) 40 = 40 := by omega
      go_wp2_with fail
      refine Met.intro (hJ _ _ (by kernel_rfl) ⟨_, rfl, rfl, rfl, rfl, rfl, rfl, by first | rfl | simp, rfl, rfl⟩)
    · as_aux_lemma =>
      obtain rfl : M = L.length := by have := HMM.out; omega
      have hmin : min (L.length : Int) 40 = (L.length : Int) := by omega
      go_wp2_with fail
      refine Met.intro (hJ _ _ (by kernel_rfl) ⟨_, rfl, rfl, rfl, rfl, rfl, rfl, by first | rfl | simp, rfl, rfl⟩)
  intro f wx ⟨cc, f7, f8, f10, f11, f12, f55, f56, f57, hwx⟩
  subst hwx
  rw [slots327]
  rw [f7, f8, f10, f11, f12, f55, f56, f57]
  clear f7 f8 f10 f11 f12 f55 f56 f57
  go_wp2_with fail
  refine wp_loop_framed 327 (fun g f wr => ∃ (k : Nat) (vi vg vw : Value), k ≤ M ∧ g = M - k ∧ f 7 = .pointer (some ⟨bp, 0, none⟩) ∧ f 8 = .pointer (some ⟨c, 0, none⟩) ∧ f 55 = .slice a M cc ∧ f 56 = .int .i64 (M : Int) ∧ f 57 = .int .i64 (k : Int) ∧ f 10 = vi ∧ f 11 = vg ∧ f 12 = vw ∧ SlT w c bp k vi vg vw wr) _ _ (by kernel_rfl) M ⟨0, _, _, _, Nat.zero_le _, rfl, rfl, rfl, rfl, rfl, rfl, rfl, rfl, rfl, START.out⟩ ?_
  clear f START
  intro g f wr ⟨k, vi, vg, vw, hk, hg, f7, f8, f55, f56, f57, f10, f11, f12, S, vc, vs, F, G, n, b, ss, gs, ws, hI, hs1, hs2⟩ J K hJ hK
  rw [slots327]
  rw [f7, f8, f10, f11, f12, f55, f56, f57]
  clear f7 f8 f10 f11 f12 f55 f56 f57
  have hm40 := HM.out.2
  by_cases hlt : k < M
  · as_aux_lemma =>
    obtain ⟨lb, lo, ha, c5⟩ := HC.out k (by have := HM.out; omega)
    subst ha
    have hln := HF.out (L.getD k Cl.zero) (by
      have hk' : k < L.length := by have := HM.out; omega
      rw [List.getD_eq_getElem?_getD, List.getElem?_eq_getElem hk']
      exact List.getElem_mem hk')
    obtain ⟨g0, g1, g2, g3, dv, g4, hrd, hz, hfk, hfa, hfb, hfc⟩ := c5
    have hcp := HK.out lb lo _ _ rfl k (by have := HM.out; omega) dv g4
    have hb := hI.mem.bel
    have g0 := old_cell hb g0
    have g1 := old_cell hb g1
    have g2 := old_cell hb g2
    have g3 := old_cell hb g3
    have g4 := old_cell hb g4
    obtain ⟨da, dn, dc, rfl, hd1, hd2⟩ := hcp
    generalize L.getD k Cl.zero = cl at *
    obtain ⟨ck, ca, cb, cc', cd⟩ := cl
    simp only at g0 g1 g2 g3 g4 hrd hz hln hfa hfb hfc hfk
    have HFA := Lib.hid (show (-9223372036854775808 ≤ ca ∧ ca ≤ 9223372036854775807) ∧ (-9223372036854775808 ≤ cb ∧ cb ≤ 9223372036854775807) from ⟨hfa, hfb⟩)
    have BX := (Below.refl wr.heap.size wr).alloc (Nat.le_refl _) (.cells #[.int .i64 ck, .int .i64 ca, .int .i64 cb, .int .i64 cc', .slice da dn dc] 35)
    have HX1 : Hid (OpBx wr.heap.size ck ca cb cc' (.slice da dn dc) (wr.alloc (.cells #[.int .i64 ck, .int .i64 ca, .int .i64 cb, .int .i64 cc', .slice da dn dc] 35))) := Lib.hid (heap_alloc_new wr _)
    have S1 := Lib.hid (hI.below BX)
    have hlf := lt_of HX1.out
    have t1 := HX1.out.cells.2.1
    obtain ⟨ai, ci, hvi⟩ := wrow_sh hI.mem.ri
    obtain ⟨m, hm⟩ : ∃ m, ss.length = m := ⟨_, rfl⟩
    rw [hm] at hvi
    have hm2 : m ≤ 40 := by omega
    have HVI := Lib.hid (And.intro hvi hm)
    have HBX : Hid (¬ F wr.heap.size ∧ ¬ G wr.heap.size) := Lib.hid ⟨fun e => Nat.lt_irrefl _ (hI.mem.cb.fl _ e), fun e => Nat.lt_irrefl _ (hI.mem.cb.bk.gl _ e)⟩
    clear hrd hz hfk hfa hfb hfc hd1 hd2 hln hI hb hlf
    rw [hvi]
    go_upto_region 14 with fail
    generalize wr.alloc (.cells #[.int .i64 ck, .int .i64 ca, .int .i64 cb, .int .i64 cc', .slice da dn dc] 35) = W1 at *
    obtain ⟨bx, hbx⟩ : ∃ bx, wr.heap.size = bx := ⟨_, rfl⟩
    rw [hbx] at HX1 t1 HBX ⊢
    clear g0 g1 g2 g3 g4 BX hbx hm hvi
    have hfa := HFA.out.1
    go_upto_if 64 with fail
    refine wp_cut_framed 327 (fun f wx => f 7 = .pointer (some ⟨bp, 0, none⟩) ∧ f 8 = .pointer (some ⟨c, 0, none⟩) ∧ f 55 = .slice (some ⟨lb, lo, none⟩) M cc ∧ f 56 = .int .i64 (M : Int) ∧ f 57 = .int .i64 (k : Int) ∧ f 10 = .slice ai m ci ∧ f 11 = vg ∧ f 12 = vw ∧ f 13 = .int .i64 (k : Int) ∧ f 14 = .pointer (some ⟨bx, 0, none⟩) ∧ (∃ kk : Int, f 15 = .int .i64 kk ∧ ((m = 0 ∧ kk = -1) ∨ ∃ kn : Nat, kn < m ∧ kk = (kn : Int))) ∧ wx = W1) _ _ ?_ ?_
    · intro J1 K1 hJ1 hK1
      by_cases hm0 : 0 < m
      · have hm0' : (0 : Int) < (m : Int) := by omega
        have hmne : ¬ (m : Int) = 0 := by omega
        obtain ⟨kn, hkn, hmod, hmod2, hb1, hb2⟩ := mod_in (A := ca) hm0
        have hm40i : (m : Int) ≤ 40 := by omega
        have HKN := Lib.hid hkn
        have HMOD := Lib.hid hmod2
        clear hkn hmod hmod2
        go_wp2_with fail
        refine Met.intro (hJ1 _ _ (by kernel_rfl) ⟨rfl, rfl, rfl, rfl, rfl, rfl, rfl, rfl, rfl, rfl, ⟨_, rfl, Or.inr ⟨kn, HKN.out, HMOD.out⟩⟩, rfl⟩)
      · have hm0' : ¬ (0 : Int) < (m : Int) := by omega
        have hm00 : m = 0 := by omega
        have HM0 := Lib.hid hm00
        clear hm00 hm0
        go_wp2_with fail
        refine Met.intro (hJ1 _ _ (by kernel_rfl) ⟨rfl, rfl, rfl, rfl, rfl, rfl, rfl, rfl, rfl, rfl, ⟨_, rfl, Or.inl ⟨HM0.out, rfl⟩⟩, rfl⟩)
    clear f t1 hfa
    intro f wx ⟨f7, f8, f55, f56, f57, f10, f11, f12, f13, f14, ⟨kk, f15, hkk⟩, hwx⟩
    subst hwx
    rw [slots327]
    rw [f7, f8, f10, f11, f12, f13, f14, f15, f55, f56, f57]
    clear f7 f8 f10 f11 f12 f13 f14 f15 f55 f56 f57
    obtain ⟨t0, t1, t2⟩ := HX1.out.cells
    go_upto_block 2 with fail
    refine wp_cut_framed 327 (fun f wx => ∃ (vi' vg' vw' : Value), f 7 = .pointer (some ⟨bp, 0, none⟩) ∧ f 8 = .pointer (some ⟨c, 0, none⟩) ∧ f 55 = .slice (some ⟨lb, lo, none⟩) M cc ∧ f 56 = .int .i64 (M : Int) ∧ f 57 = .int .i64 (k : Int) ∧ f 10 = vi' ∧ f 11 = vg' ∧ f 12 = vw' ∧ SlT w c bp (k + 1) vi' vg' vw' wx) _ _ ?_ ?_
    · clear hJ hK
      intro J1 K1 hJ1 hK1
      have HS := Lib.hid (And.intro hs1 hs2)
      by_cases hA : ck ≤ 1
      · as_aux_lemma =>
        --[[A
        have NX := Lib.hid (nextS_any S1.out.mem.cb.cm cb)
        have HVI2 := Lib.hid HVI.out.1.symm
        have HSM := Lib.hid HVI.out.2
        have hcbr := HFA.out.2
        clear hkk HVI HFA t1
        go_wp2_with fail
        refine NX.out.mono ?_
        rintro e w2 ⟨hb2, na, nb, nc, nd, nt, rfl, hnx⟩
        have A2 : Below w2.heap.size w2 (w2.alloc (.cells #[.int .i64 na, .int .i64 nb, .int .i64 nc, .int .i64 nd] 37)) := (Below.refl _ _).alloc (Nat.le_refl _) _
        have R2 := Lib.hid (heap_alloc_new w2 (.cells #[.int .i64 na, .int .i64 nb, .int .i64 nc, .int .i64 nd] 37))
        have B2 := Lib.hid (hb2.trans (A2.mono hb2.size))
        have HB2 := Lib.hid hb2.size
        have X2 := Lib.hid (HX1.out.below B2.out)
        have HNX := Lib.hid hnx
        clear hb2 A2 NX t0 t2 hnx
        go_upto_region 20 with fail
        obtain ⟨r2, hr2⟩ : ∃ r2, w2.heap.size = r2 := ⟨_, rfl⟩
        rw [hr2] at R2 ⊢
        have HR2 : Hid (wx.heap.size ≤ r2) := Lib.hid (by rw [← hr2]; exact HB2.out)
        generalize w2.alloc (.cells #[.int .i64 na, .int .i64 nb, .int .i64 nc, .int .i64 nd] 37) = W2 at *
        clear hr2
        have I2 := Lib.hid (S1.out.below B2.out)
        have AL := Lib.hid (alloc_any I2.out.mem.cb cb (by have := I2.out.law.sh.last; omega))
        obtain ⟨_, _, t2⟩ := X2.out.cells
        go_wp2_with fail
        refine AL.out.mono ?_
        rintro e w3 (⟨er, her, rfl, G', b', hcb, hG, ht⟩ | ⟨hc0, T1, n1, x, i, y, vs', F', G', b', hin, hfo, rfl, hcb, hF, hG, ht⟩)
        · have FIN := Lib.hid (I2.out.refused hs1 hs2 hcb hG ht)
          have hE1 : (er != 0) = true := bne_iff_ne.2 her
          have hE2 : (er == 0) = false := by simpa using her
          clear hcb hG ht her AL t2
          go_wp2_with fail
          refine Met.intro (hJ1 _ _ (by kernel_rfl) ⟨_, _, _, rfl, rfl, rfl, rfl, rfl, HVI2.out, rfl, rfl, FIN.out.below ((Below.refl _ _).alloc (Nat.le_refl _) _)⟩)
        · have hc1 : clsIdx S.classes cb < S.classes.length ∧ 0 ≤ cb := by
            have h1 := clsIdx_le S.classes cb
            have h2 := hc0
            unfold clsE at h2
            rw [I2.out.law.opn] at h2
            simp only [Bool.false_eq_true, if_false] at h2
            split at h2
            · cases h2
            · split at h2
              · cases h2
              · omega
          obtain ⟨kk, rfl⟩ : ∃ kk : Nat, cb = kk := ⟨cb.toNat, by omega⟩
          rw [Int.toNat_natCast] at hcb
          have hcg := clsIdx_get hc1.1
          obtain ⟨cl, hcl⟩ : ∃ cl, clsIdx S.classes (kk : Int) = cl := ⟨_, rfl⟩
          rw [hcl] at hin hfo hcg hc1 ⊢
          have hcr := (clsErr_all I2.out.mem.cb.cm.cok).2.2.1 cl hc1.1
          have hkc : kk ≤ clsN S.classes cl := by unfold clsN; omega
          have hk4 : kk ≤ 4096 := by omega
          have N2 := HNX.out hc0
          rw [hcl] at N2
          have nx : nt = true → na = (cl : Int) ∧ nb = (x.no : Int) ∧ nc = (i : Int) ∧ nd = (y.gen : Int) := fun hnt => by
            cases h0 : freeOf S.sl cl with
            | none => rw [h0] at N2; rw [N2] at hnt; cases hnt
            | some p0 =>
              obtain ⟨x0, i0, y0⟩ := p0
              rw [h0] at N2
              obtain ⟨e1, e2, e3⟩ := next_is hin hfo h0
              rw [← e1, ← e2, ← e3]
              exact N2.2
          have L1 := I2.out.law.alIn hin
          have hclT : T1.classes = S.classes := by
            rcases hin with ⟨rfl, _⟩ | ⟨_, _, p, g, q, rfl⟩ <;> rfl
          obtain ⟨L2, _⟩ := L1.take hfo (k := kk) (by rw [hclT]; exact hkc)
          obtain ⟨x2, an2, y2, u2, hg2, hl2, hle2, ho2⟩ := L2.hold _ List.mem_cons_self
          have M3 := I2.out.mem.cache hcb hF hG ht
          have A3 : Below w3.heap.size w3 (w3.alloc (.cells #[.int .i64 (cl : Int), .int .i64 (x.no : Int), .int .i64 (i : Int), .int .i64 (y.gen : Int)] 37)) := (Below.refl _ _).alloc (Nat.le_refl _) _
          have R3 := Lib.hid (heap_alloc_new w3 (.cells #[.int .i64 (cl : Int), .int .i64 (x.no : Int), .int .i64 (i : Int), .int .i64 (y.gen : Int)] 37))
          have M4 := Lib.hid (M3.below A3)
          have noF : ∀ j, wx.heap.size ≤ j → j < W2.heap.size → ¬ (F j ∨ G j) := fun j h1 h2 hj => by
            rcases hj with e | e
            · have := S1.out.mem.cb.fl j e; omega
            · have := S1.out.mem.cb.bk.gl j e; omega
          have X3 : Hid (OpBx bx ck ca (kk : Int) cc' (.slice da dn dc) (w3.alloc (.cells #[.int .i64 (cl : Int), .int .i64 (x.no : Int), .int .i64 (i : Int), .int .i64 (y.gen : Int)] 37))) := Lib.hid (by
            refine (A3.block bx (Nat.lt_of_lt_of_le (lt_of X2.out) ht.size)).trans ((ht.block bx (lt_of X2.out) (fun hj => ?_)).trans X2.out)
            rcases hj with e | e
            · exact HBX.out.1 e
            · exact HBX.out.2 e)
          have Q2 : Hid ((w3.alloc (.cells #[.int .i64 (cl : Int), .int .i64 (x.no : Int), .int .i64 (i : Int), .int .i64 (y.gen : Int)] 37)).heap[r2]? = some (.cells #[.int .i64 na, .int .i64 nb, .int .i64 nc, .int .i64 nd] 37 (0, 0))) := Lib.hid (by
            refine (A3.block r2 (Nat.lt_of_lt_of_le (lt_of R2.out) ht.size)).trans ((ht.block r2 (lt_of R2.out) (fun hj => ?_)).trans R2.out)
            rcases hj with e | e
            · have := S1.out.mem.cb.fl r2 e
              have := HR2.out
              omega
            · have := S1.out.mem.cb.bk.gl r2 e
              have := HR2.out
              omega)
          have CP := Lib.hid (fun (W : World) (hW : Below (w3.alloc (.cells #[.int .i64 (cl : Int), .int .i64 (x.no : Int), .int .i64 (i : Int), .int .i64 (y.gen : Int)] 37)).heap.size (w3.alloc (.cells #[.int .i64 (cl : Int), .int .i64 (x.no : Int), .int .i64 (i : Int), .int .i64 (y.gen : Int)] 37)) W) => copy_use (M4.out.cb.cm.below hW) u2 (u2.val M4.out.cb.cm (by show T1.closed = false; exact L1.opn) hg2) ho2 (by simp [zeros]; omega))
          have HAL := Lib.hid (And.intro hin (And.intro hfo hkc))
          have NX2 := Lib.hid nx
          clear hcb hF hG ht L1 L2 u2 hg2 hl2 hle2 ho2 N2 nx hin hfo hcg hcr hkc hclT noF A3 M3 AL t2 hc1
          go_upto_region 22 with fail
          obtain ⟨r3, hr3⟩ : ∃ r3, w3.heap.size = r3 := ⟨_, rfl⟩
          rw [hr3] at R3 ⊢
          generalize w3.alloc (.cells #[.int .i64 (cl : Int), .int .i64 (x.no : Int), .int .i64 (i : Int), .int .i64 (y.gen : Int)] 37) = W3 at *
          clear hr3
          obtain ⟨q0, q1, q2, q3⟩ := cells4 R3.out
          go_wp2_with fail
          refine (CP.out W3 (Below.refl _ _)).mono ?_
          rintro e w4 ⟨va, vcap, rfl, hrow4, hrd4, hb4⟩
          have hzl : (zeros kk).length = kk := by simp [zeros]
          rw [hzl] at hrow4 hrd4
          have M5 := Lib.hid (M4.out.below hb4)
          have Q5 := Lib.hid ((hb4.block _ (lt_of Q2.out)).trans Q2.out)
          have R5 := Lib.hid ((hb4.block _ (lt_of R3.out)).trans R3.out)
          have X5 := Lib.hid (X3.out.below hb4)
          have HB4 := Lib.hid hb4
          obtain ⟨_, _, t2⟩ := X5.out.cells
          obtain ⟨q0, q1, q2, q3⟩ := cells4 R5.out
          obtain ⟨n0, n1', n2, n3⟩ := cells4 Q5.out
          have MK := fun W => run_makeBytes W kk kk (by omega) (by omega) (by omega)
          have A5 : Below w4.heap.size w4 (w4.alloc (.cells ((zeros kk).map (Value.int .u8)).toArray 5)) := (Below.refl _ _).alloc (Nat.le_refl _) _
          have EQ := Lib.hid (equal_oct (hrd4.below A5 rfl) hzl (p2 := some ⟨w4.heap.size, 0, none⟩) (m := kk) (d := kk) (by
            have h1 : byteRow (w4.alloc (.cells ((zeros kk).map (Value.int .u8)).toArray 5)) w4.heap.size (zeros kk) := heap_alloc_new w4 _
            have h2 := reads_oct h1 (f := 0) (n := kk) (by omega) kk (by omega)
            rw [List.drop_zero, List.take_of_length_le (by omega)] at h2
            exact h2) hzl)
          have R6 := Lib.hid ((A5.block _ (lt_of R5.out)).trans R5.out)
          have M6 := Lib.hid (M5.out.below A5)
          have ROW6 := Lib.hid (row_kept hrow4 A5)
          have hzk : (0 : Int) ≤ (kk : Int) := by omega
          have NEWV := Lib.hid (fun k hk => (hrow4.lt k hk).1)
          clear hrow4 hrd4 hb4 CP A5
          go_upto_region 23 with fail
          refine wp_cut_framed 327 (fun f wy => f 7 = .pointer (some ⟨bp, 0, none⟩) ∧ f 8 = .pointer (some ⟨c, 0, none⟩) ∧ f 55 = .slice (some ⟨lb, lo, none⟩) M cc ∧ f 56 = .int .i64 (M : Int) ∧ f 57 = .int .i64 (k : Int) ∧ f 10 = .slice ai m ci ∧ f 11 = vg ∧ f 12 = vw ∧ f 19 = .pointer (some ⟨r3, 0, none⟩) ∧ f 21 = .slice va kk vcap ∧ f 133 = .bool false ∧ wy = w4.alloc (.cells ((zeros kk).map (Value.int .u8)).toArray 5)) _ _ ?_ ?_
          · intro J4 K4 hJ4 hK4
            cases nt with
            | true =>
              as_aux_lemma =>
              obtain ⟨rfl, rfl, rfl, rfl⟩ := NX2.out rfl
              go_wp2_with fail
              refine EQ.out.mono ?_
              rintro e w7 ⟨rfl, hw7⟩
              obtain rfl := hw7
              go_wp2_with fail
              refine Met.intro (hJ4 _ _ (by kernel_rfl) ⟨rfl, rfl, rfl, rfl, rfl, rfl, rfl, rfl, rfl, rfl, by first | rfl | simp, rfl⟩)
            | false =>
              as_aux_lemma =>
              go_wp2_with fail
              refine EQ.out.mono ?_
              rintro e w7 ⟨rfl, hw7⟩
              obtain rfl := hw7
              go_wp2_with fail
              refine Met.intro (hJ4 _ _ (by kernel_rfl) ⟨rfl, rfl, rfl, rfl, rfl, rfl, rfl, rfl, rfl, rfl, by first | rfl | simp, rfl⟩)
          clear f EQ MK n0 n1' n2 n3 q0 q1 q2 q3 t2
          intro f wy ⟨f7, f8, f55, f56, f57, f10, f11, f12, f19, f21, f133, hwy⟩
          rw [← hwy] at M6 R6 ROW6
          have BY : Hid (W3.heap.size ≤ wy.heap.size) := Lib.hid (by rw [hwy]; exact Nat.le_trans HB4.out.size (Below.alloc (Below.refl w4.heap.size w4) (Nat.le_refl _) _).size)
          clear hwy
          rw [slots327]
          rw [f7, f8, f10, f11, f12, f19, f21, f55, f56, f57, f133]
          clear f7 f8 f10 f11 f12 f19 f21 f55 f56 f57 f133
          obtain ⟨q0, q1, q2, q3⟩ := cells4 R6.out
          rw [← HVI2.out] at M6
          have M6o := M6.out
          have ROWI := M6o.ri
          rw [HSM.out] at ROWI
          have HRI := Lib.hid ROWI
          clear M6o ROWI
          obtain ⟨i0, hi0, hz0, hz1, hz2⟩ := info_parts info_slot
          obtain ⟨i1, hi1, hy0, hy1, hy2⟩ := info_parts info_row
          go_upto_region 25 with fail
          go_wp2_with (at_builtin; go_must (refine wpList_append_at rfl (.tmp 134) (.tmp 136) 31 rfl 0 37 i0 (.agg #[.int .i64 0, .int .i64 0, .int .i64 0, .int .i64 0]) 4 32 Try.underlying31 hi0 hz0 hz1 hz2 rfl (by decide) (.slice ai m ci) m (ss.flatMap Sq.cells) wy _ [.int .i64 (cl : Int), .int .i64 (x.no : Int), .int .i64 (i : Int), .int .i64 (y.gen : Int)] rfl HRI.out rfl rfl (by intro u hu; simp at hu; rcases hu with rfl | rfl | rfl | rfl <;> rfl) (by unfold maxLen; omega) (by omega) (Nat.zero_le _) ?_))
          intro g9 cap9 w9 hrow9 hgr9 hpl9 hsz9
          have T9 : Touch (fun k => (Value.slice ai m ci).ownBlock = some k) wy w9 := touch_grown hgr9
          have ROW9 := Lib.hid (row_far (row_low ROW6.out (Nat.zero_le _)) T9 (fun k hk e => blk_apart M6.out.ri (row_low ROW6.out (Nat.zero_le _)) (by decide) e hk))
          have M7 := Lib.hid (M6.out.toI (vi' := .slice (some ⟨g9, 0, none⟩) (m + 1) cap9) (ss' := ss ++ [⟨cl, x.no, i, y.gen⟩]) T9 (by
            rw [List.length_append, HSM.out, List.flatMap_append]
            exact hrow9) (fun k hk => by
            simp [Value.ownBlock] at hk
            subst hk
            exact hpl9))
          have M7o := M7.out
          obtain ⟨aw, cw, hvw⟩ := wrow_sh M7o.rw
          have hwl : ws.length = m := S1.out.wl.trans HSM.out
          rw [hwl] at hvw
          have ROWW := M7o.rw
          rw [hvw, hwl] at ROWW
          have HRW := Lib.hid ROWW
          have HVW := Lib.hid hvw
          rw [hvw]
          clear hrow9 hgr9 hpl9 M7o ROWW hvw
          go_wp2_with (at_builtin; go_must (refine wpList_append_at rfl (.tmp 138) (.tmp 140) 32 rfl 0 33 i1 (.slice none 0 0) 1 24 Try.underlying32 hi1 hy0 hy1 hy2 rfl (by decide) (.slice aw m cw) m (ws.map Prod.fst) w9 _ [.slice va kk vcap] rfl HRW.out rfl rfl (by intro u hu; simp at hu; subst hu; rfl) (by unfold maxLen; omega) (by omega) (Nat.zero_le _) ?_))
          intro ga capa wa hrowa hgra hpla hsza
          have Ta : Touch (fun k => (Value.slice aw m cw).ownBlock = some k) w9 wa := touch_grown hgra
          have M7v := M7.out
          rw [HVW.out] at M7v
          have szW : W3.heap.size ≤ wy.heap.size := BY.out
          have FIN : Hid (SlT w c bp (k + 1) (.slice (some ⟨g9, 0, none⟩) (m + 1) cap9) vg (.slice (some ⟨ga, 0, none⟩) (m + 1) capa) wa) := Lib.hid (by
            refine S1.out.given hs1 hs2 HAL.out.1 HAL.out.2.1 HAL.out.2.2 (v := .slice va kk vcap) (M7v.toW Ta (by
              rw [List.length_append, hwl, List.map_append]
              exact hrowa) (fun k hk => by
              simp [Value.ownBlock] at hk
              subst hk
              exact hpla) (fun e he => ?_) ?_)
            · rcases List.mem_append.1 he with he | he
              · exact Or.inl he
              · obtain rfl : e = (.slice va kk vcap, zeros kk) := by simpa using he
                refine Or.inr ⟨by simp only [hzl]; exact ROW9.out, fun z hz => by simp [zeros] at hz; omega, fun k hk => ?_⟩
                have h1 := NEWV.out k hk
                have h3 := M4.out
                exact ⟨Nat.le_trans h3.bel.size h1, fun hf => by have := h3.cb.fl k hf; omega, fun hg => by have := h3.cb.bk.gl k hg; omega⟩
            · rw [List.pairwise_append]
              refine ⟨M7v.sep, by simp, fun e he e' he' k hk hk' => ?_⟩
              obtain rfl : e' = (.slice va kk vcap, zeros kk) := by simpa using he'
              have h1 := NEWV.out k hk'
              have h2 := (M4.out.ro e he).1.lt k hk
              omega)
          clear hrowa hgra hpla hsza
          go_wp2_with fail
          refine Met.intro (hJ1 _ _ (by kernel_rfl) ⟨_, _, _, rfl, rfl, rfl, rfl, rfl, rfl, rfl, rfl, FIN.out⟩)
        --]]A
      by_cases hN : kk < 0
      · as_aux_lemma =>
        have hm0 : m = 0 := by
          rcases hkk with h | ⟨kn, h1, h2⟩
          · exact h.1
          · omega
        have FIN := Lib.hid (S1.out.next hs1 hs2)
        have HVI2 := Lib.hid HVI.out.1.symm
        clear hkk hm0 S1
        go_wp2_with fail
        refine Met.intro (hJ1 _ _ (by kernel_rfl) ⟨_, _, _, rfl, rfl, rfl, rfl, rfl, HVI2.out, rfl, rfl, FIN.out⟩)
      obtain ⟨kn, hkn, rfl⟩ : ∃ kn : Nat, kn < m ∧ kk = (kn : Int) := by
        rcases hkk with h | h
        · omega
        · exact h
      clear hkk hN
      by_cases h2 : ck = 2
      · as_aux_lemma =>
        --[[F
        subst h2
        obtain ⟨A, s, Bq, C, v0, o, D, x, an, y, hA, hAl, hC, hCl, hs, hw, u, hE, hyl, hys, hyo, hperm⟩ := S1.out.at (i := kn) (by have := HVI.out.2; omega)
        obtain ⟨gi, cap1, hai, c0, c1, c2, c3, _⟩ := slot_row S1.out.mem.ri hs
        rw [HVI.out.1, HVI.out.2] at hai
        simp only [Value.slice.injEq] at hai
        obtain ⟨rfl, k6, rfl⟩ := hai
        clear k6
        have hgen := (S1.out.law.sh.gen x (slabOf_some u.no).1 y (List.mem_of_getElem? u.cel)).2
        have FR := Lib.hid (free_use S1.out.mem.cb u hE (by omega))
        have HSM := Lib.hid HVI.out.2
        have HVI1 := Lib.hid HVI.out.1
        have HLS := Lib.hid (And.intro hA (And.intro hAl (And.intro hC (And.intro hCl (And.intro hs (And.intro u hperm))))))
        have hkn0 : ¬ (kn : Int) < 0 := by omega
        have hkn1 : (kn : Int) < (m : Int) := by omega
        clear HFA t1 t2 hA hAl hC hCl hs hw u hE hyl hys hyo hperm HVI hgen
        go_wp2_with fail
        refine FR.out.mono ?_
        rintro e w3 ⟨rfl, hcb, ht⟩
        have M3 := Lib.hid (S1.out.mem.cache hcb (fun k hk => Or.inl hk) (fun k hk => Or.inl hk) ht)
        have hsz3 := ht.size
        clear FR hcb ht c0 c1 c2 c3
        obtain ⟨g2, cap2, hai2, c0, c1, c2, c3, _⟩ := slot_row M3.out.ri HLS.out.2.2.2.2.1
        rw [HVI1.out] at hai2
        simp only [Value.slice.injEq, Option.some.injEq, Addr.mk.injEq, and_true] at hai2
        obtain ⟨rfl, k6, k7⟩ := hai2
        clear k6 k7
        obtain ⟨ag, cg, hvg⟩ := wrow_sh M3.out.rg
        obtain ⟨mg, hmg⟩ : ∃ mg, gs.length = mg := ⟨_, rfl⟩
        rw [hmg] at hvg
        have hmg2 : mg ≤ 40 := by have := HS.out.2; omega
        have ROWG := M3.out.rg
        rw [hvg, hmg] at ROWG
        have HRG := Lib.hid ROWG
        have HVG := Lib.hid (And.intro hvg hmg)
        rw [hvg]
        clear ROWG hvg hmg
        obtain ⟨i0, hi0, hz0, hz1, hz2⟩ := info_parts info_slot
        go_wp2_with (at_builtin; go_must (refine wpList_append_at rfl (.tmp 156) (.tmp 161) 31 rfl 0 37 i0 (.agg #[.int .i64 0, .int .i64 0, .int .i64 0, .int .i64 0]) 4 32 Try.underlying31 hi0 hz0 hz1 hz2 rfl (by decide) (.slice ag mg cg) mg (gs.flatMap Sq.cells) w3 _ [.int .i64 s.cls, .int .i64 s.no, .int .i64 s.at', .int .i64 s.gen] rfl HRG.out rfl rfl (by intro u hu; simp at hu; rcases hu with rfl | rfl | rfl | rfl <;> rfl) (by unfold maxLen; omega) (by omega) (Nat.zero_le _) ?_))
        intro g9 cap9 w9 hrow9 hgr9 hpl9 hsz9
        have M3v := M3.out
        rw [HVG.out.1] at M3v
        have T9 : Touch (fun k => (Value.slice ag mg cg).ownBlock = some k) w3 w9 := touch_grown hgr9
        have M4 := Lib.hid (M3v.toG (vg' := .slice (some ⟨g9, 0, none⟩) (mg + 1) cap9) (gs' := gs ++ [s]) T9 (by
          rw [List.length_append, HVG.out.2, List.flatMap_append]
          exact hrow9) (fun k hk => by
          simp [Value.ownBlock] at hk
          subst hk
          exact hpl9))
        clear hrow9 hgr9 hpl9 M3v T9 c0 c1 c2 c3
        have ekn : ((kn + 1 : Nat) : Int) = (kn : Int) + 1 := by omega
        have RI := M4.out.ri
        rw [HVI1.out, HSM.out] at RI
        have DEL := delete_slot gi ci m kn (kn + 1) (ss.flatMap Sq.cells) w9 RI (by
          intro u hu
          obtain ⟨q, _, hq⟩ := List.mem_flatMap.1 hu
          exact Sq.one q u hq) hkn rfl (by omega)
        rw [ekn] at DEL
        have DEL := Lib.hid DEL
        clear RI
        go_upto_region 31 with fail
        go_wp2_with fail
        refine DEL.out.mono ?_
        rintro e wb ⟨rfl, hrowb, htb, hszb⟩
        have M4v := M4.out
        rw [HVI1.out] at M4v
        have M5 := Lib.hid (M4v.toI (vi' := .slice (some ⟨gi, 0, none⟩) (m - 1) ci) (ss' := A ++ Bq) (htb.mono (fun k hk => by rw [hk]; rfl)) (by
          have e1 : (A ++ Bq).length = m - 1 := by
            have := HSM.out
            rw [HLS.out.1] at this
            simp only [List.length_append, List.length_cons] at this ⊢
            omega
          rw [e1, ← flat_cut (s := s) HLS.out.2.1, ← HLS.out.1]
          exact hrowb) (fun k hk => by
          left
          exact hk))
        clear hrowb htb hszb M4v DEL
        have hwl : ws.length = m := S1.out.wl.trans HSM.out
        obtain ⟨gw, cw, hvw⟩ := row_shape M5.out.rw (by omega)
        rw [hwl] at hvw
        have RW := M5.out.rw
        rw [hvw, hwl] at RW
        have HVW := Lib.hid hvw
        have DEW := delete_row gw cw m kn (kn + 1) (ws.map Prod.fst) wb RW (by
          intro u hu
          obtain ⟨q, hq, rfl⟩ := List.mem_map.1 hu
          obtain ⟨a1, c1, h1⟩ := wrow_sh (M5.out.ro q hq).1
          rw [h1]
          rfl) hkn rfl (by omega)
        rw [ekn] at DEW
        have DEW := Lib.hid DEW
        rw [hvw]
        clear RW hvw
        go_wp2_with fail
        refine DEW.out.mono ?_
        rintro e wc ⟨rfl, hrowc, htc, hszc⟩
        have FIN : Hid (SlT w c bp (k + 1) (.slice (some ⟨gi, 0, none⟩) (m - 1) ci) (.slice (some ⟨g9, 0, none⟩) (mg + 1) cap9) (.slice (some ⟨gw, 0, none⟩) (m - 1) cw) wc) := Lib.hid (by
          have M5v := M5.out
          rw [HVW.out] at M5v
          have e1 : (C ++ D).length = m - 1 := by
            have := hwl
            rw [HLS.out.2.2.1] at this
            simp only [List.length_append, List.length_cons] at this ⊢
            omega
          have sub : (C ++ D).Sublist ws := by
            rw [HLS.out.2.2.1]
            exact List.Sublist.append (List.Sublist.refl _) (List.sublist_cons_self _ _)
          exact S1.out.freed HS.out.1 HS.out.2 HLS.out.1 HLS.out.2.2.1 HLS.out.2.2.2.2.2.1 HLS.out.2.2.2.2.2.2 (M5v.toW (htc.mono (fun k hk => by rw [hk]; rfl)) (by
            rw [e1, ← rows_cut (p := (v0, o)) HLS.out.2.2.2.1, ← HLS.out.2.2.1]
            exact hrowc) (fun k hk => Or.inl hk) (fun e he => Or.inl (sub.subset he)) (M5v.sep.sublist sub)))
        clear hrowc htc hszc DEW
        go_wp2_with fail
        refine Met.intro (hJ1 _ _ (by kernel_rfl) ⟨_, _, _, rfl, rfl, rfl, rfl, rfl, rfl, rfl, rfl, FIN.out⟩)
        --]]F
      by_cases h3 : ck = 3
      · as_aux_lemma =>
        --[[L
        subst h3
        obtain ⟨A, s, Bq, C, v0, o, D, x, an, y, hA, hAl, hC, hCl, hs, hw, u, hE, hyl, hys, hyo, hperm⟩ := S1.out.at (i := kn) (by have := HVI.out.2; omega)
        obtain ⟨gi, cap1, hai, c0, c1, c2, c3, _⟩ := slot_row S1.out.mem.ri hs
        rw [HVI.out.1, HVI.out.2] at hai
        simp only [Value.slice.injEq] at hai
        obtain ⟨rfl, k6, rfl⟩ := hai
        clear k6
        have HSM := Lib.hid HVI.out.2
        have HVI1 := Lib.hid HVI.out.1
        have hwl : ws.length = m := S1.out.wl.trans HSM.out
        obtain ⟨gw, cw, va, vcap, hvw, hv0, hle, cwv, fwv⟩ := S1.out.mem.octs hw
        rw [hwl] at hvw
        have hol : o.length ≤ 4096 := by
          have h1 := (u.lt S1.out.mem.cb.cm).2.2.2.2.2.1
          omega
        obtain ⟨ol, hol2⟩ : ∃ ol, o.length = ol := ⟨_, rfl⟩
        have HOL := Lib.hid hol2
        have LK := Lib.hid (fun W (hW : BelW wx W) => look_use (s := s) (ol := ol) (S1.out.mem.cb.cm.below hW) u hE (by omega))
        have PK := Lib.hid (fun W (hW : Below wx.heap.size wx W) => PkI.start (S1.out.below hW) hC u hyl hys hyo hol2)
        have HLS := Lib.hid (And.intro hA (And.intro hAl (And.intro hC (And.intro hCl (And.intro hs (And.intro u (And.intro hperm (And.intro hyl (And.intro hys (And.intro hyo hw))))))))))
        have HVW := Lib.hid hvw
        rw [hol2] at cwv hol hle hv0
        have HV0 := Lib.hid hv0
        have HX : Hid (x ∈ S.sl ∧ an * clsN S.classes x.cls + ol ≤ x.cs.length) := Lib.hid ⟨(slabOf_some u.no).1, by
          have h1 := S1.out.law.sh.win (slabOf_some u.no).1 ((List.getElem?_eq_some_iff.1 u.cel).1)
          omega⟩
        obtain ⟨Ab, hAb⟩ : ∃ Ab, an * clsN S.classes x.cls = Ab := ⟨_, rfl⟩
        have HAB := Lib.hid hAb
        rw [hAb] at LK PK HX
        rw [hvw]
        have hkn0 : ¬ (kn : Int) < 0 := by omega
        have hkn1 : (kn : Int) < (m : Int) := by omega
        clear t1 t2 hA hAl hC hCl hs hw u hE hyl hys hyo hperm HVI hvw hv0 hol2 hAb fwv
        go_upto_region 33 with fail
        refine wp_cut_framed 327 (fun f wy => ∃ pa pc, f 7 = .pointer (some ⟨bp, 0, none⟩) ∧ f 8 = .pointer (some ⟨c, 0, none⟩) ∧ f 55 = .slice (some ⟨lb, lo, none⟩) M cc ∧ f 56 = .int .i64 (M : Int) ∧ f 57 = .int .i64 (k : Int) ∧ f 10 = .slice (some ⟨gi, 0, none⟩) m ci ∧ f 11 = vg ∧ f 12 = .slice (some ⟨gw, 0, none⟩) m cw ∧ f 13 = .int .i64 (k : Int) ∧ f 15 = .int .i64 (kn : Int) ∧ f 23 = .slice pa ol pc ∧ f 24 = .int .i64 0 ∧ (0 < ol → pa = some ⟨x.g, Ab, none⟩ ∧ pc = ol) ∧ ol ≤ pc ∧ Below wx.heap.size wx wy) _ _ ?_ ?_
        · intro J4 K4 hJ4 hK4
          have S0 : BelW wx wx.drew := (Below.refl _ wx).drew
          have a0 : ∀ z : WIn (BelW wx), z.w.cell? ⟨gi, kn * 4, none⟩ = some (.int .i64 s.cls) := fun z => old_cell z.h c0
          have a1 : ∀ z : WIn (BelW wx), z.w.cell? ⟨gi, kn * 4 + 1, none⟩ = some (.int .i64 s.no) := fun z => old_cell z.h c1
          have a2 : ∀ z : WIn (BelW wx), z.w.cell? ⟨gi, kn * 4 + 2, none⟩ = some (.int .i64 s.at') := fun z => old_cell z.h c2
          have a3 : ∀ z : WIn (BelW wx), z.w.cell? ⟨gi, kn * 4 + 3, none⟩ = some (.int .i64 s.gen) := fun z => old_cell z.h c3
          have b2 : ∀ z : WIn (BelW wx), z.w.cell? ⟨gw, kn, none⟩ = some (.slice va ol vcap) := fun z => old_cell z.h cwv
          haveI ne : Nonempty (WIn (BelW wx)) := ⟨⟨wx.drew, S0⟩⟩
          refine wp_normal ?_
          refine wp_region_plan 10 (BelW wx) rfl ?_
          refine wpN_seg [0, 1, 2, 3, 4, 5, 6, 7, 8, 9] (by kernel_rfl) (by kernel_rfl) (by kernel_rfl) (by kernel_rfl) (by decide) (fun _ _ _ _ _ h => h) S0 ?_
          simp only [pick, List.map_cons, List.map_nil, List.getElem?_cons_succ, List.getElem?_cons_zero, Option.getD_some]
          repeat (go_big_quiet_step (fail))
          refine wpQuiet_nil ?_
          clear a0 a1 a2 a3 b2 ne
          refine wpN_one 10 _ (by kernel_rfl) rfl ?_
          refine NextAt.free (by kernel_rfl) ?_
          intro K5 hK5
          go_simp
          refine (LK.out wx.drew S0).mono ?_
          rintro e W3 ⟨pa, pc, rfl, hpa, hpc, hb3⟩
          have HB3 := Lib.hid (Below.trans (a := wx) S0 (hb3.mono (Nat.le_refl _)))
          have HPA := Lib.hid (And.intro hpa hpc)
          clear hb3 hpa hpc
          go_simp
          refine hK5 _ _ ?_
          clear hK5 K5
          refine wpN_pure [11, 12, 13, 14, 15] (by kernel_rfl) (by kernel_rfl) (by kernel_rfl) (fun _ _ _ _ _ h => h) (fun h => by cases h) ?_
          simp only [pick, List.map_cons, List.map_nil, List.getElem?_cons_succ, List.getElem?_cons_zero, Option.getD_some]
          repeat (go_big_quiet_step (fail))
          refine wpQuiet_nil ?_
          refine wpN_done (by kernel_rfl) ?_
          go_wp2_with fail
          refine Met.intro (hJ4 _ _ (by kernel_rfl) ⟨pa, pc, rfl, rfl, rfl, rfl, rfl, rfl, rfl, rfl, rfl, rfl, rfl, rfl, HPA.out.1, HPA.out.2, HB3.out⟩)
        clear f LK c0 c1 c2 c3 t0
        intro f wy ⟨pa, pc, f7, f8, f55, f56, f57, f10, f11, f12, f13, f15, f23, f24, hpa, hpc, hby⟩
        rw [slots327]
        rw [f7, f8, f10, f11, f12, f13, f15, f23, f24, f55, f56, f57]
        clear f7 f8 f10 f11 f12 f13 f15 f23 f24 f55 f56 f57
        have cwy := old_cell hby cwv
        have PKY := Lib.hid (PK.out wy hby)
        have HBY := Lib.hid hby
        have HPA := Lib.hid (And.intro hpa hpc)
        clear hby cwv PK hpa hpc
        go_wp2_with fail
        refine wp_loop_framed 327 (fun g f wr => ∃ j : Nat, j ≤ ol ∧ g = ol - j ∧ f 7 = .pointer (some ⟨bp, 0, none⟩) ∧ f 8 = .pointer (some ⟨c, 0, none⟩) ∧ f 55 = .slice (some ⟨lb, lo, none⟩) M cc ∧ f 56 = .int .i64 (M : Int) ∧ f 57 = .int .i64 (k : Int) ∧ f 10 = .slice (some ⟨gi, 0, none⟩) m ci ∧ f 11 = vg ∧ f 12 = .slice (some ⟨gw, 0, none⟩) m cw ∧ f 13 = .int .i64 (k : Int) ∧ f 15 = .int .i64 (kn : Int) ∧ f 23 = .slice pa ol pc ∧ f 204 = .int .i64 (ol : Int) ∧ f 205 = .int .i64 (j : Int) ∧ PkI w c bp n S vc vs vi vg vw F G b ss gs C D v0 x Ab ol wr) _ _ (by kernel_rfl) ol ⟨0, Nat.zero_le _, rfl, rfl, rfl, rfl, rfl, rfl, rfl, rfl, rfl, rfl, rfl, rfl, rfl, rfl, PKY.out⟩ ?_
        clear f PKY cwy
        intro g2 f w5 ⟨j, hj, hg2, f7, f8, f55, f56, f57, f10, f11, f12, f13, f15, f23, f204, f205, hpk⟩ J5 K5 hJ5 hK5
        rw [slots327]
        rw [f7, f8, f10, f11, f12, f13, f15, f23, f55, f56, f57, f204, f205]
        clear f7 f8 f10 f11 f12 f13 f15 f23 f55 f56 f57 f204 f205
        by_cases hjl : j < ol
        · as_aux_lemma =>
          have HPK := Lib.hid hpk
          obtain ⟨o', cs, h1, h2, h3, h4, h5⟩ := hpk
          obtain ⟨z, hz⟩ : ∃ z, o'[j]? = some z := ⟨_, List.getElem?_eq_getElem (by omega)⟩
          have hro := h5.ro (v0, o') (by simp)
          have hz2 := hro.2 z (List.mem_of_getElem? hz)
          have hin : ({ x with cs := cs } : Sl) ∈ (S.put { x with cs := cs }).sl := put_in HX.out.1 rfl
          have mx := h5.cb.cm.sl _ hin
          have cx : w5.cell? ⟨x.g, Ab + j, none⟩ = some (.int .u8 z) := by
            have h6 : w5.heap[x.g]? = some (.cells (cs.map (Value.int .u8)).toArray 5 (0, 0)) := mx.oct
            rw [cell_of h6]
            have h7 := h4 j hjl
            rw [hz] at h7
            simp [h7]
          have fx : w5.frozen? ⟨x.g, Ab + j, none⟩ = false := free_of (show w5.heap[x.g]? = some (.cells (cs.map (Value.int .u8)).toArray 5 (0, 0)) from mx.oct) _
          have hr := hro.1
          simp only at hr
          rw [h1] at hr
          obtain ⟨gr, cr, hv0⟩ := row_shape hr (by omega)
          rw [hv0] at hr
          obtain ⟨gr', e1, cg, fg⟩ := wrow_cell hr (j := j) (u := .int .u8 z) (by rw [List.getElem?_map, hz]; rfl)
          cases e1
          have hv2 := HV0.out
          rw [hv0] at hv2
          simp only [Value.slice.injEq, true_and] at hv2
          obtain ⟨rfl, rfl⟩ := hv2
          have hrw := h5.rw
          rw [HVW.out] at hrw
          have hlen : (C ++ (v0, o') :: D).length = m := by
            have := hwl
            rw [HLS.out.2.2.1] at this
            simp only [List.length_append, List.length_cons] at this ⊢
            exact this
          rw [hlen] at hrw
          obtain ⟨gw', e2, cw5, _⟩ := wrow_cell hrw (j := kn) (u := v0) (by
            rw [List.map_append, List.getElem?_append_right (by rw [List.length_map, HLS.out.2.2.2.1]; exact Nat.le_refl _), List.length_map, HLS.out.2.2.2.1, Nat.sub_self]
            rfl)
          cases e2
          rw [hv0] at cw5
          have hFx : F x.g := mx.fg
          have n1 : ¬ gr = x.g := fun e => (h5.dr (v0, o') (by simp) gr (by rw [hv0]; rfl)).2.1 (e ▸ hFx)
          have n2 : ¬ gw = x.g := fun e => (h5.dw gw (by rw [HVW.out]; rfl)).2.1 (e ▸ hFx)
          obtain ⟨hpa, hpc⟩ := HPA.out.1 (by omega)
          subst hpa
          subst hpc
          have hjl' : (j : Int) < (pc : Int) := by omega
          have FIN := Lib.hid (HPK.out.step (z := z) (z' := (z + ((k : Int) + 1)) % 256) HX.out.1 HX.out.2 hjl hv0 (by omega))
          clear h1 h2 h3 h4 h5 hz hro hin mx hr hrw hlen hFx hv0 hz2
          go_wp2_with fail
          refine Handed.intro (pc - (j + 1)) (by omega) (hJ5 _ _ _ (by kernel_rfl) ⟨j + 1, by omega, rfl, rfl, rfl, rfl, rfl, rfl, rfl, rfl, rfl, rfl, rfl, rfl, rfl, by first | rfl | simp, FIN.out⟩)
        · as_aux_lemma =>
          have hjl' : ¬ (j : Int) < (ol : Int) := by omega
          have FIN := Lib.hid (S1.out.poked hs1 hs2 HLS.out.1 (by rw [HLS.out.2.1, HLS.out.2.2.2.1]) HLS.out.2.2.1 HLS.out.2.2.2.2.2.1 HLS.out.2.2.2.2.2.2.1 (HLS.out.2.2.2.2.2.2.2.1.trans HOL.out) HLS.out.2.2.2.2.2.2.2.2.1 (by rw [HAB.out]; exact hpk))
          have HVI2 := Lib.hid HVI1.out.symm
          have HVW2 := Lib.hid HVW.out.symm
          clear hpk
          go_wp2_with fail
          refine Met.intro (hJ1 _ _ (by kernel_rfl) ⟨_, _, _, rfl, rfl, rfl, rfl, rfl, HVI2.out, rfl, HVW2.out, FIN.out⟩)
        --]]L
      by_cases h4 : ck = 4
      · as_aux_lemma =>
        --[[R
        subst h4
        obtain ⟨A, s, Bq, C, v0, o, D, x, an, y, hA, hAl, hC, hCl, hs, hw, u, hE, hyl, hys, hyo, hperm⟩ := S1.out.at (i := kn) (by have := HVI.out.2; omega)
        obtain ⟨gi, cap1, hai, c0, c1, c2, c3, _⟩ := slot_row S1.out.mem.ri hs
        rw [HVI.out.1, HVI.out.2] at hai
        simp only [Value.slice.injEq] at hai
        obtain ⟨rfl, k6, rfl⟩ := hai
        clear k6
        have hgen := (S1.out.law.sh.gen x (slabOf_some u.no).1 y (List.mem_of_getElem? u.cel)).2
        have hlast := S1.out.law.sh.last
        have RS := Lib.hid (fun W (hW : BelW wx W) => resizeS_any (S1.out.mem.cb.below hW) u hE cb (by omega) (by omega))
        have HSM := Lib.hid HVI.out.2
        have HVI1 := Lib.hid HVI.out.1
        have HLS := Lib.hid (And.intro hA (And.intro hAl (And.intro hC (And.intro hCl (And.intro hs (And.intro u (And.intro hperm (And.intro hyl (And.intro hys (And.intro hyo hw))))))))))
        have hkn0 : ¬ (kn : Int) < 0 := by omega
        have hkn1 : (kn : Int) < (m : Int) := by omega
        clear t1 hA hAl hC hCl hs hw u hE hyl hys hyo hperm HVI hgen hlast
        go_upto_region 43 with fail
        refine wp_cut_framed 327 (fun f wy => ∃ (r er ra rb rc rd : _) (W W3 : World), f 7 = .pointer (some ⟨bp, 0, none⟩) ∧ f 8 = .pointer (some ⟨c, 0, none⟩) ∧ f 55 = .slice (some ⟨lb, lo, none⟩) M cc ∧ f 56 = .int .i64 (M : Int) ∧ f 57 = .int .i64 (k : Int) ∧ f 10 = .slice (some ⟨gi, 0, none⟩) m ci ∧ f 11 = vg ∧ f 12 = vw ∧ f 14 = .pointer (some ⟨bx, 0, none⟩) ∧ f 15 = .int .i64 (kn : Int) ∧ f 26 = .pointer (some ⟨r, 0, none⟩) ∧ f 27 = .int .i64 er ∧
          Below wx.heap.size wx W ∧ RsPost W c bp S vc vs F G 10000000 n x an y cb (.returned (.tuple #[.agg #[.int .i64 ra, .int .i64 rb, .int .i64 rc, .int .i64 rd], .int .i64 er])) W3 ∧ wy.heap[r]? = some (.cells #[.int .i64 ra, .int .i64 rb, .int .i64 rc, .int .i64 rd] 37 (0, 0)) ∧ Touch (fun k => k = r) W3 wy ∧ wx.heap.size ≤ r ∧ (r < W.heap.size ∨ W3.heap.size ≤ r)) _ _ ?_ ?_
        · intro J4 K4 hJ4 hK4
          have S0 : BelW wx wx.drew := (Below.refl _ wx).drew
          have a0 : ∀ z : WIn (BelW wx), z.w.cell? ⟨gi, kn * 4, none⟩ = some (.int .i64 s.cls) := fun z => old_cell z.h c0
          have a1 : ∀ z : WIn (BelW wx), z.w.cell? ⟨gi, kn * 4 + 1, none⟩ = some (.int .i64 s.no) := fun z => old_cell z.h c1
          have a2 : ∀ z : WIn (BelW wx), z.w.cell? ⟨gi, kn * 4 + 2, none⟩ = some (.int .i64 s.at') := fun z => old_cell z.h c2
          have a3 : ∀ z : WIn (BelW wx), z.w.cell? ⟨gi, kn * 4 + 3, none⟩ = some (.int .i64 s.gen) := fun z => old_cell z.h c3
          have b2 : ∀ z : WIn (BelW wx), z.w.cell? ⟨bx, 2, none⟩ = some (.int .i64 cb) := fun z => old_cell z.h t2
          haveI ne : Nonempty (WIn (BelW wx)) := ⟨⟨wx.drew, S0⟩⟩
          refine wp_normal ?_
          refine wp_region_plan 7 (BelW wx) rfl ?_
          refine wpN_seg [0, 1, 2, 3, 4, 5, 6] (by kernel_rfl) (by kernel_rfl) (by kernel_rfl) (by kernel_rfl) (by decide) (fun _ _ _ _ _ h => h) S0 ?_
          simp only [pick, List.map_cons, List.map_nil, List.getElem?_cons_succ, List.getElem?_cons_zero, Option.getD_some]
          repeat (go_big_quiet_step (fail))
          refine wpQuiet_nil ?_
          clear a0 a1 a2 a3 b2 ne
          refine wpN_two 7 11 _ _ (by kernel_rfl) rfl rfl ?_ ?_
          · refine NextAt.free (by kernel_rfl) ?_
            intro K5 hK5
            go_simp
            refine (RS.out wx.drew S0).mono ?_
            rintro e W3 hp
            obtain ⟨ra, rb, rc, rd, er, rfl⟩ := hp.form
            have HP := Lib.hid hp
            clear hp
            go_simp
            refine hK5 _ _ ?_
            clear hK5 K5
            refine wpN_pure [8, 9, 10] (by kernel_rfl) (by kernel_rfl) (by kernel_rfl) (fun _ _ _ _ _ h => h) (fun h => by cases h) ?_
            simp only [pick, List.map_cons, List.map_nil, List.getElem?_cons_succ, List.getElem?_cons_zero, Option.getD_some]
            repeat (go_big_quiet_step (fail))
            refine wpQuiet_nil ?_
            refine wpN_one 11 _ (by kernel_rfl) rfl ?_
            refine NextAt.free (by kernel_rfl) ?_
            intro K5 hK5
            go_simp
            refine hK5 _ _ ?_
            clear hK5 K5
            have AZ := heap_alloc_new W3 (.cells #[.int .i64 0, .int .i64 0, .int .i64 0, .int .i64 0] 37)
            have TZ : Touch (fun k => k = W3.heap.size) W3 (W3.alloc (.cells #[.int .i64 0, .int .i64 0, .int .i64 0, .int .i64 0] 37)) := (Touch.refl _ _).alloc _
            have HTZ := Lib.hid TZ
            have sz3 := HP.out.touch.size
            generalize W3.alloc (.cells #[.int .i64 0, .int .i64 0, .int .i64 0, .int .i64 0] 37) = WZ at *
            obtain ⟨rz, hrz⟩ : ∃ rz, W3.heap.size = rz := ⟨_, rfl⟩
            have HRZ := Lib.hid hrz
            rw [hrz] at AZ HTZ sz3 ⊢
            clear TZ hrz
            have f0 := free_of AZ 0
            have f1 := free_of AZ 1
            have f2 := free_of AZ 2
            have f3 := free_of AZ 3
            obtain ⟨q0, q1, q2, q3⟩ := cells4 AZ
            have RR := res4 (a := .int .i64 ra) (b := .int .i64 rb) (c := .int .i64 rc) (d := .int .i64 rd) AZ
            have T4 := touch4 (w := WZ) rz (.int .i64 ra) (.int .i64 rb) (.int .i64 rc) (.int .i64 rd)
            refine wpN_one 12 _ (by kernel_rfl) rfl ?_
            refine NextAt.free (by kernel_rfl) ?_
            intro K5 hK5
            go_simp
            refine hK5 _ _ ?_
            clear hK5 K5 f0 f1 f2 f3 q0 q1 q2 q3
            refine wpN_pure [13] (by kernel_rfl) (by kernel_rfl) (by kernel_rfl) (fun _ _ _ _ _ h => h) (fun h => by cases h) ?_
            simp only [pick, List.map_cons, List.map_nil, List.getElem?_cons_succ, List.getElem?_cons_zero, Option.getD_some]
            repeat (go_big_quiet_step (fail))
            refine wpQuiet_nil ?_
            refine wpN_done (by kernel_rfl) ?_
            go_wp2_with fail
            refine Met.intro (hJ4 _ _ (by kernel_rfl) ⟨rz, er, ra, rb, rc, rd, wx.drew, W3, rfl, rfl, rfl, rfl, rfl, rfl, rfl, rfl, rfl, rfl, rfl, rfl, S0, HP.out, RR, HTZ.out.then T4, sz3, Or.inr (Nat.le_of_eq HRZ.out)⟩)
          · refine NextAt.held ?_
            intro K5 hK5
            go_simp
            have SB : BelW wx (wx.drew.alloc (.cells #[.int .i64 0, .int .i64 0, .int .i64 0, .int .i64 0] 37)) := Below.alloc (w := wx.drew) S0 S0.size _
            refine hK5 _ _ SB ?_
            clear hK5 K5
            refine wpN_one 7 _ (by kernel_rfl) rfl ?_
            refine NextAt.free (by kernel_rfl) ?_
            intro K5 hK5
            go_simp
            refine (RS.out _ SB).mono ?_
            rintro e W3 hp
            obtain ⟨ra, rb, rc, rd, er, rfl⟩ := hp.form
            have HP := Lib.hid hp
            clear hp
            go_simp
            refine hK5 _ _ ?_
            clear hK5 K5
            refine wpN_pure [8, 9, 10] (by kernel_rfl) (by kernel_rfl) (by kernel_rfl) (fun _ _ _ _ _ h => h) (fun h => by cases h) ?_
            simp only [pick, List.map_cons, List.map_nil, List.getElem?_cons_succ, List.getElem?_cons_zero, Option.getD_some]
            repeat (go_big_quiet_step (fail))
            refine wpQuiet_nil ?_
            have R0 := heap_alloc_new wx.drew (.cells #[.int .i64 0, .int .i64 0, .int .i64 0, .int .i64 0] 37)
            have AZ : W3.heap[wx.heap.size]? = some (.cells #[.int .i64 0, .int .i64 0, .int .i64 0, .int .i64 0] 37 (0, 0)) := (HP.out.touch.block wx.heap.size (lt_of R0) (fun e => by
              have h3 := S1.out.mem.behind (Nat.le_refl wx.heap.size)
              rcases e with e | e
              · exact h3.2.1 e
              · exact h3.2.2.1 e)).trans R0
            have hlz := lt_of R0
            generalize wx.drew.alloc (.cells #[.int .i64 0, .int .i64 0, .int .i64 0, .int .i64 0] 37) = WB at *
            clear R0
            have f0 := free_of AZ 0
            have f1 := free_of AZ 1
            have f2 := free_of AZ 2
            have f3 := free_of AZ 3
            obtain ⟨q0, q1, q2, q3⟩ := cells4 AZ
            have RR := res4 (a := .int .i64 ra) (b := .int .i64 rb) (c := .int .i64 rc) (d := .int .i64 rd) AZ
            have T4 := touch4 (w := W3) wx.heap.size (.int .i64 ra) (.int .i64 rb) (.int .i64 rc) (.int .i64 rd)
            refine wpN_one 12 _ (by kernel_rfl) rfl ?_
            refine NextAt.free (by kernel_rfl) ?_
            intro K5 hK5
            go_simp
            refine hK5 _ _ ?_
            clear hK5 K5 f0 f1 f2 f3 q0 q1 q2 q3
            refine wpN_pure [13] (by kernel_rfl) (by kernel_rfl) (by kernel_rfl) (fun _ _ _ _ _ h => h) (fun h => by cases h) ?_
            simp only [pick, List.map_cons, List.map_nil, List.getElem?_cons_succ, List.getElem?_cons_zero, Option.getD_some]
            repeat (go_big_quiet_step (fail))
            refine wpQuiet_nil ?_
            refine wpN_done (by kernel_rfl) ?_
            go_wp2_with fail
            refine Met.intro (hJ4 _ _ (by kernel_rfl) ⟨wx.heap.size, er, ra, rb, rc, rd, WB, W3, rfl, rfl, rfl, rfl, rfl, rfl, rfl, rfl, rfl, rfl, rfl, rfl, SB, HP.out, RR, T4, Nat.le_refl _, Or.inl hlz⟩)
        clear f RS c0 c1 c2 c3 t0 t2
        intro f wy ⟨r, er, ra, rb, rc, rd, W, W3, f7, f8, f55, f56, f57, f10, f11, f12, f14, f15, f26, f27, hW, hp, hbox, htr, hr1, hr2⟩
        rw [slots327]
        rw [f7, f8, f10, f11, f12, f14, f15, f26, f27, f55, f56, f57]
        clear f7 f8 f10 f11 f12 f14 f15 f26 f27 f55 f56 f57
        by_cases her : er = 0
        case neg =>
          have FIN := Lib.hid (S1.out.resErr hs1 hs2 hW hp her htr hr1 hr2)
          have HVI2 := Lib.hid HVI1.out.symm
          have hE2 : (er == 0) = false := by simpa using her
          clear hp hbox htr hr1 hr2 hW her
          go_wp2_with fail
          refine Met.intro (hJ1 _ _ (by kernel_rfl) ⟨_, _, _, rfl, rfl, rfl, rfl, rfl, HVI2.out, rfl, rfl, FIN.out⟩)
        case pos =>
        subst her
        obtain ⟨kk, rfl, hk4, S', vs', F', G', n', b', s', gsx, hM, htot, hlaw, rfl, rfl, rfl, rfl, hgx⟩ := S1.out.resized HLS.out.2.2.2.2.2.1 HLS.out.2.2.2.2.2.2.1 HLS.out.2.2.2.2.2.2.2.1 HLS.out.2.2.2.2.2.2.2.2.1 HLS.out.2.2.2.2.2.2.2.2.2.1 hW hp htr hr1 hr2
        have MY := Lib.hid hM
        have HLW := Lib.hid (And.intro htot (And.intro hlaw hgx))
        have HBX2 := Lib.hid hbox
        have X4 : Hid (OpBx bx 4 ca (kk : Int) cc' (.slice da dn dc) wy) := Lib.hid (by
          have l1 := lt_of HX1.out
          have htt := hp.touch
          have s1 := hW.size
          have s2 := htt.size
          refine (htr.block bx (by omega) (by omega)).trans ((htt.block bx (by omega) (fun e => ?_)).trans ((hW.block bx l1).trans HX1.out))
          rcases e with e | e
          · exact HBX.out.1 e
          · exact HBX.out.2 e)
        have HRL := Lib.hid (And.intro hr1 hr2)
        have HVI2 := Lib.hid HVI1.out.symm
        clear hp hW htr hbox hM htot hlaw hgx hr2 hr1
        have hwl : ws.length = m := S1.out.wl.trans HSM.out
        obtain ⟨gw, cw, va, vcap, hvw, hv0, hle, cwv, fwv⟩ := MY.out.octs HLS.out.2.2.2.2.2.2.2.2.2.2
        rw [hwl] at hvw
        have ROW := (MY.out.ro (v0, o) (List.mem_of_getElem? HLS.out.2.2.2.2.2.2.2.2.2.2)).1
        simp only at ROW
        rw [hv0] at ROW
        have hol : o.length ≤ 4096 := by
          have h1 := (HLS.out.2.2.2.2.2.1.lt S1.out.mem.cb.cm).2.2.2.2.2.1
          have h2 := HLS.out.2.2.2.2.2.2.2.1
          have h3 := HLS.out.2.2.2.2.2.2.2.2.1
          omega
        have HVW := Lib.hid hvw
        have HROW := Lib.hid ROW
        rw [hvw]
        clear hvw ROW hv0 hle fwv
        obtain ⟨ol, hol2⟩ : ∃ ol, o.length = ol := ⟨_, rfl⟩
        have HOL := Lib.hid hol2
        rw [hol2] at cwv hol HROW
        have MK := fun W => run_makeBytes W kk kk (by omega) (by omega) (by omega)
        obtain ⟨_, _, t2⟩ := X4.out.cells
        have hzk : (0 : Int) ≤ (kk : Int) := by omega
        have AM : Below wy.heap.size wy (wy.alloc (.cells ((zeros kk).map (Value.int .u8)).toArray 5)) := (Below.refl _ _).alloc (Nat.le_refl _) _
        have RM : byteRow (wy.alloc (.cells ((zeros kk).map (Value.int .u8)).toArray 5)) wy.heap.size (zeros kk) := heap_alloc_new wy _
        have hzl : (zeros kk).length = kk := by simp [zeros]
        obtain ⟨WC, rv, CPR, hrC, htC⟩ := copy_min_fact (wy.alloc (.cells ((zeros kk).map (Value.int .u8)).toArray 5)) wy.heap.size kk va ol vcap (zeros kk) o RM hzl (Reads.own (k := .u8) (zs := o) (by rw [HOL.out]; exact row_kept HROW.out AM) (by rw [HOL.out]; omega)) HOL.out
        rw [rsO_splice] at hrC
        have BC := Lib.hid (AM.trans (htC.below AM.size (fun k hk => Nat.le_of_eq hk.symm)))
        have RC := Lib.hid hrC
        have cwm := old_cell AM cwv
        clear hrC htC AM RM hzl hol
        go_upto_region 46 with fail
        generalize wy.alloc (.cells ((zeros kk).map (Value.int .u8)).toArray 5) = WM at *
        have MC := Lib.hid (MY.out.below BC.out)
        obtain ⟨gx, hgx⟩ : ∃ gx, wy.heap.size = gx := ⟨_, rfl⟩
        have HGX := Lib.hid hgx
        rw [hgx] at RC CPR ⊢
        clear hgx cwv t2 MK
        go_upto_region 47 with fail
        obtain ⟨g2, cap2, hai2, c0, c1, c2, c3, fz⟩ := slot_row MC.out.ri HLS.out.2.2.2.2.1
        rw [HVI1.out] at hai2
        simp only [Value.slice.injEq, Option.some.injEq, Addr.mk.injEq, and_true] at hai2
        obtain ⟨rfl, k6, k7⟩ := hai2
        clear k6 k7 fz CPR cwm
        have HBC := Lib.hid ((BC.out.block _ (lt_of HBX2.out)).trans HBX2.out)
        obtain ⟨q0, q1, q2, q3⟩ := cells4 HBC.out
        refine wp_cut_framed 327 (fun f wz => f 7 = .pointer (some ⟨bp, 0, none⟩) ∧ f 8 = .pointer (some ⟨c, 0, none⟩) ∧ f 55 = .slice (some ⟨lb, lo, none⟩) M cc ∧ f 56 = .int .i64 (M : Int) ∧ f 57 = .int .i64 (k : Int) ∧ f 10 = .slice (some ⟨gi, 0, none⟩) m ci ∧ f 12 = .slice (some ⟨gw, 0, none⟩) m cw ∧ f 15 = .int .i64 (kn : Int) ∧ f 26 = .pointer (some ⟨r, 0, none⟩) ∧ f 28 = .slice (some ⟨gx, 0, none⟩) kk kk ∧ f 11 = vg ∧ (∃ tb : Bool, f 261 = .bool tb ∧ ((tb = false ∧ gsx = []) ∨ (tb = true ∧ gsx = [s]))) ∧ Below WC.heap.size WC wz) _ _ ?_ ?_
        · intro J5 K5 hJ5 hK5
          rcases HLW.out.2.2 with ⟨hg0, hs0⟩ | ⟨hg0, hs0⟩
          · as_aux_lemma =>
            have HG0 := Lib.hid hg0
            subst hs0
            clear hg0
            go_quiet (fail)
            go_wp2_with fail
            refine Met.intro (hJ5 _ _ (by kernel_rfl) ⟨rfl, rfl, rfl, rfl, rfl, rfl, rfl, rfl, rfl, rfl, rfl, ⟨_, rfl, Or.inl ⟨by first | rfl | simp, HG0.out⟩⟩, bdrewN (Below.refl _ _) _⟩)
          · as_aux_lemma =>
            have hE1 : (s'.cls == s.cls) = false := by simpa using hs0
            have HS0 := Lib.hid (And.intro hs0 hg0)
            clear hs0 hg0
            go_quiet (fail)
            go_wp2_with fail
            refine Met.intro (hJ5 _ _ (by kernel_rfl) ⟨rfl, rfl, rfl, rfl, rfl, rfl, rfl, rfl, rfl, rfl, rfl, ⟨_, rfl, Or.inr ⟨by have := HS0.out.1; first | rfl | (simp; done) | (simp [this]; done) | simp_all, HS0.out.2⟩⟩, bdrewN (Below.refl _ _) _⟩)
        clear f c0 c1 c2 c3 q0 q1 q2 q3
        intro f wz ⟨f7, f8, f55, f56, f57, f10, f12, f15, f26, f28, f11, ⟨tb, f261, htb⟩, hbz⟩
        rw [slots327]
        rw [f7, f8, f10, f11, f12, f15, f26, f28, f55, f56, f57, f261]
        clear f7 f8 f10 f11 f12 f15 f26 f28 f55 f56 f57 f261
        have MZ := Lib.hid (MC.out.below hbz)
        have RZ := Lib.hid ((hbz.block _ (lt_of RC.out)).trans RC.out)
        have QZ := Lib.hid ((hbz.block _ (lt_of HBC.out)).trans HBC.out)
        have BZ : Hid (Below wy.heap.size wy wz) := Lib.hid (BC.out.trans (hbz.mono BC.out.size))
        clear hbz
        go_upto_if 261 with fail
        refine wp_cut_framed 327 (fun f wq => f 7 = .pointer (some ⟨bp, 0, none⟩) ∧ f 8 = .pointer (some ⟨c, 0, none⟩) ∧ f 55 = .slice (some ⟨lb, lo, none⟩) M cc ∧ f 56 = .int .i64 (M : Int) ∧ f 57 = .int .i64 (k : Int) ∧ f 10 = .slice (some ⟨gi, 0, none⟩) m ci ∧ f 12 = .slice (some ⟨gw, 0, none⟩) m cw ∧ f 15 = .int .i64 (kn : Int) ∧ f 26 = .pointer (some ⟨r, 0, none⟩) ∧ f 28 = .slice (some ⟨gx, 0, none⟩) kk kk ∧ ∃ vg' : Value, f 11 = vg' ∧ SlM w c bp S' vc vs' F' G' n' b' vi vg' vw ss (gs ++ gsx) ws wq ∧ byteRow wq gx (rsO o kk) ∧ wq.heap[r]? = some (.cells #[.int .i64 s'.cls, .int .i64 s'.no, .int .i64 s'.at', .int .i64 s'.gen] 37 (0, 0))) _ _ ?_ ?_
        · intro J5 K5 hJ5 hK5
          rcases htb with ⟨rfl, hg0⟩ | ⟨rfl, hg0⟩
          · as_aux_lemma =>
            have FIN : Hid (SlM w c bp S' vc vs' F' G' n' b' vi vg vw ss (gs ++ gsx) ws wz) := Lib.hid (by rw [hg0, List.append_nil]; exact MZ.out)
            clear hg0
            go_wp2_with fail
            refine Met.intro (hJ5 _ _ (by kernel_rfl) ⟨rfl, rfl, rfl, rfl, rfl, rfl, rfl, rfl, rfl, rfl, _, rfl, FIN.out, RZ.out, QZ.out⟩)
          · as_aux_lemma =>
            have HG0 := Lib.hid hg0
            clear hg0
            obtain ⟨g3, cap3, hai3, c0, c1, c2, c3, fz⟩ := slot_row MZ.out.ri HLS.out.2.2.2.2.1
            rw [HVI1.out] at hai3
            simp only [Value.slice.injEq, Option.some.injEq, Addr.mk.injEq, and_true] at hai3
            obtain ⟨rfl, k6, k7⟩ := hai3
            clear k6 k7 fz
            obtain ⟨ag, cg, hvg⟩ := wrow_sh MZ.out.rg
            obtain ⟨mg, hmg⟩ : ∃ mg, gs.length = mg := ⟨_, rfl⟩
            rw [hmg] at hvg
            have hmg2 : mg ≤ 40 := by have := HS.out.2; omega
            have ROWG := MZ.out.rg
            rw [hvg, hmg] at ROWG
            have HRG := Lib.hid ROWG
            have HVG := Lib.hid (And.intro hvg hmg)
            rw [hvg]
            clear ROWG hvg hmg
            obtain ⟨i0, hi0, hz0, hz1, hz2⟩ := info_parts info_slot
            go_wp2_with (at_builtin; go_must (refine wpList_append_at rfl (.tmp 262) (.tmp 267) 31 rfl 0 37 i0 (.agg #[.int .i64 0, .int .i64 0, .int .i64 0, .int .i64 0]) 4 32 Try.underlying31 hi0 hz0 hz1 hz2 rfl (by decide) (.slice ag mg cg) mg (gs.flatMap Sq.cells) wz _ [.int .i64 s.cls, .int .i64 s.no, .int .i64 s.at', .int .i64 s.gen] rfl HRG.out rfl rfl (by intro u hu; simp at hu; rcases hu with rfl | rfl | rfl | rfl <;> rfl) (by unfold maxLen; omega) (by omega) (Nat.zero_le _) ?_))
            intro g9 cap9 w9 hrow9 hgr9 hpl9 hsz9
            have MZv := MZ.out
            rw [HVG.out.1] at MZv
            have T9 : Touch (fun k => (Value.slice ag mg cg).ownBlock = some k) wz w9 := touch_grown hgr9
            have M9 := Lib.hid (MZv.toG (vg' := .slice (some ⟨g9, 0, none⟩) (mg + 1) cap9) (gs' := gs ++ [s]) T9 (by
              rw [List.length_append, HVG.out.2, List.flatMap_append]
              exact hrow9) (fun k hk => by
              simp [Value.ownBlock] at hk
              subst hk
              exact hpl9))
            have hgy := HGX.out
            have R9 := Lib.hid ((T9.block gx (lt_of RZ.out) (fun e => by have := (MY.out.behind (Nat.le_of_eq hgy)).2.2.2.2.1; rw [HVG.out.1] at this; exact this e)).trans RZ.out)
            have Q9 := Lib.hid ((T9.block r (lt_of QZ.out) (fun e => by have := (S1.out.mem.behind HRL.out.1).2.2.2.2.1; rw [HVG.out.1] at this; exact this e)).trans QZ.out)
            clear hrow9 hgr9 hpl9 MZv T9 c0 c1 c2 c3 hsz9
            go_wp2_with fail
            refine Met.intro (hJ5 _ _ (by kernel_rfl) ⟨rfl, rfl, rfl, rfl, rfl, rfl, rfl, rfl, rfl, rfl, _, rfl, by rw [HG0.out]; exact M9.out, R9.out, Q9.out⟩)
        clear f htb
        intro f wq ⟨f7, f8, f55, f56, f57, f10, f12, f15, f26, f28, vg', f11, hMQ, hRQ, hQQ⟩
        rw [slots327]
        rw [f7, f8, f10, f11, f12, f15, f26, f28, f55, f56, f57]
        clear f7 f8 f10 f11 f12 f15 f26 f28 f55 f56 f57
        obtain ⟨g3, cap3, hai3, c0, c1, c2, c3, fz⟩ := slot_row hMQ.ri HLS.out.2.2.2.2.1
        rw [HVI1.out] at hai3
        simp only [Value.slice.injEq, Option.some.injEq, Addr.mk.injEq, and_true] at hai3
        obtain ⟨rfl, k6, k7⟩ := hai3
        clear k6 k7
        obtain ⟨g4, cw4, va4, vc4, hvw4, _, _, cwv, fwv⟩ := hMQ.octs HLS.out.2.2.2.2.2.2.2.2.2.2
        rw [HVW.out] at hvw4
        simp only [Value.slice.injEq, Option.some.injEq, Addr.mk.injEq, and_true] at hvw4
        obtain ⟨rfl, k6, k7⟩ := hvw4
        clear k6 k7
        have hgg : ¬ gw = gi := fun e => by
          have h1 : vi.ownBlock = some gw := by rw [HVI1.out, e]; rfl
          have h2 : vw.ownBlock = some gw := by rw [HVW.out]; rfl
          exact blk_apart hMQ.ri hMQ.rw (by decide) h1 h2
        have fz0 := fz (kn * 4)
        have fz1 := fz (kn * 4 + 1)
        have fz2 := fz (kn * 4 + 2)
        have fz3 := fz (kn * 4 + 3)
        obtain ⟨q0, q1, q2, q3⟩ := cells4 hQQ
        have FIN : Hid (SlT w c bp (k + 1) (.slice (some ⟨gi, 0, none⟩) m ci) vg' (.slice (some ⟨gw, 0, none⟩) m cw) (((((wq.setCell ⟨gi, kn * 4, none⟩ (.int .i64 s'.cls)).setCell ⟨gi, kn * 4 + 1, none⟩ (.int .i64 s'.no)).setCell ⟨gi, kn * 4 + 2, none⟩ (.int .i64 s'.at')).setCell ⟨gi, kn * 4 + 3, none⟩ (.int .i64 s'.gen)).setCell ⟨gw, kn, none⟩ (.slice (some ⟨gx, 0, none⟩) kk kk))) := Lib.hid (by
          have hbh := MY.out.behind (Nat.le_of_eq HGX.out)
          have hM := hMQ
          have hsm := HSM.out
          have hwl2 := hwl
          have hss := HS.out.1
          rw [HVI1.out, HVW.out, HLS.out.1, HLS.out.2.2.1] at hM
          rw [HLS.out.1] at hsm
          rw [HLS.out.2.2.1] at hwl2
          rw [HLS.out.1] at hss
          have hbo : bytes (rsO o kk) := fun z hz => by
            unfold rsO at hz
            rcases List.mem_append.1 hz with hz | hz
            · exact (MY.out.ro (v0, o) (List.mem_of_getElem? HLS.out.2.2.2.2.2.2.2.2.2.2)).2 z (List.mem_of_mem_take hz)
            · simp [zeros] at hz
              omega
          have hR := hM.replaced (s' := s') hsm hwl2 HLS.out.2.1 HLS.out.2.2.2.1 hRQ (rsO_len o kk) hk4 hbo ⟨hbh.1, hbh.2.1, hbh.2.2.1⟩ (fun e => hbh.2.2.2.1 (by rw [HVI1.out, e]; rfl)) (by rw [← HLS.out.2.2.1]; exact hbh.2.2.2.2.2.2)
          refine SlT.of hR HLW.out.1 (by simp only [List.length_append, List.length_cons] at hsm hwl2 ⊢; omega) ?_ (by simp only [List.length_append, List.length_cons] at hss ⊢; omega) ?_
          · rw [List.map_append, List.map_cons, zip_mid (by rw [List.length_map, HLS.out.2.1, HLS.out.2.2.2.1])]
            refine HLW.out.2.1.perm ?_
            rw [List.map_append, List.zip_append (by rw [List.length_map, HLS.out.2.1, HLS.out.2.2.2.1])]
            exact List.perm_middle.symm
          · have h2 := HS.out.2
            rcases HLW.out.2.2 with ⟨h3, _⟩ | ⟨h3, _⟩ <;> (rw [h3]; simp only [List.length_append, List.length_nil, List.length_cons]; omega))
        clear hMQ hRQ hQQ fz
        go_upto_region 49 with fail
        go_wp2_with fail
        refine Met.intro (hJ1 _ _ (by kernel_rfl) ⟨_, _, _, rfl, rfl, rfl, rfl, rfl, rfl, rfl, rfl, FIN.out⟩)
        --]]R
      as_aux_lemma =>
      have TR := Lib.hid (trimS_any S1.out.mem.cb (Nat.le_of_eq S1.out.tot) S1.out.law.opn)
      have FIN := Lib.hid (fun W hp => S1.out.trimmed (w' := W) hs1 hs2 hp)
      have HVI2 := Lib.hid HVI.out.1.symm
      have hkn0 : ¬ (kn : Int) < 0 := by omega
      clear S1
      go_wp2_with fail
      refine TR.out.mono ?_
      rintro e w6 ⟨rfl, hp⟩
      have FIN2 := Lib.hid (FIN.out w6 hp)
      clear hp TR FIN
      go_wp2_with fail
      refine Met.intro (hJ1 _ _ (by kernel_rfl) ⟨_, _, _, rfl, rfl, rfl, rfl, rfl, HVI2.out, rfl, rfl, FIN2.out⟩)
    clear f t0 t1 t2 HX1 HFA
    intro f wx ⟨vi', vg', vw', f7, f8, f55, f56, f57, f10, f11, f12, hT⟩
    rw [slots327]
    rw [f7, f8, f10, f11, f12, f55, f56, f57]
    clear f7 f8 f10 f11 f12 f55 f56 f57
    --[[T
    obtain ⟨S, vc, vs, F, G, n, b, ss, gs, ws, hI, hs1, hs2⟩ := hT
    obtain ⟨ai, ci, hvi⟩ := wrow_sh hI.mem.ri
    obtain ⟨ag, cg, hvg⟩ := wrow_sh hI.mem.rg
    obtain ⟨m, hm⟩ : ∃ m, ss.length = m := ⟨_, rfl⟩
    obtain ⟨mg, hmg⟩ : ∃ mg, gs.length = mg := ⟨_, rfl⟩
    rw [hm] at hvi
    rw [hmg] at hvg
    have HI := Lib.hid hI
    have HL := Lib.hid (And.intro hm hmg)
    have hm2 : m ≤ 40 := by omega
    have hmg2 : mg ≤ 40 := by omega
    subst hvi
    subst hvg
    clear hI hm hmg
    go_wp2_with fail
    refine wp_loop_framed 327 (fun g f wr => ∃ i : Nat, i ≤ m ∧ g = m - i ∧ f 7 = .pointer (some ⟨bp, 0, none⟩) ∧ f 8 = .pointer (some ⟨c, 0, none⟩) ∧ f 55 = .slice (some ⟨lb, lo, none⟩) M cc ∧ f 56 = .int .i64 (M : Int) ∧ f 57 = .int .i64 (k : Int) ∧ f 10 = .slice ai m ci ∧ f 11 = .slice ag mg cg ∧ f 12 = vw' ∧ f 277 = .slice ai m ci ∧ f 278 = .int .i64 (m : Int) ∧ f 279 = .int .i64 (i : Int) ∧ Below wx.heap.size wx wr) _ _ (by kernel_rfl) m ⟨0, Nat.zero_le _, rfl, rfl, rfl, rfl, rfl, rfl, rfl, rfl, rfl, rfl, rfl, rfl, Below.refl _ _⟩ ?_
    clear f
    intro g2 f w4 ⟨i, hi, hg2, f7, f8, f55, f56, f57, f10, f11, f12, f277, f278, f279, hb4⟩ J2 K2 hJ2 hK2
    rw [slots327]
    rw [f7, f8, f10, f11, f12, f55, f56, f57, f277, f278, f279]
    clear f7 f8 f10 f11 f12 f55 f56 f57 f277 f278 f279
    by_cases hil : i < m
    · as_aux_lemma =>
      have I4 := HI.out.below hb4
      obtain ⟨A, s, Bq, C, v0, o, D, x, an, y, k1, k2, k3, k4, hs, hw, u, hE, hyl, hys, hyo, k5⟩ := I4.at (i := i) (by have := HL.out.1; omega)
      obtain ⟨gi, cap1, hai, c0, c1, c2, c3, _⟩ := slot_row I4.mem.ri hs
      simp only [Value.slice.injEq] at hai
      obtain ⟨rfl, k6, rfl⟩ := hai
      clear k1 k2 k3 k4 k5 k6
      obtain ⟨gw, capw, va, vcap, hvw, hv0, hle, cw, _⟩ := I4.mem.octs hw
      have hol : o.length ≤ 4096 := by have h1 := (u.lt I4.mem.cb.cm).2.2.2.2.2.1; omega
      have hwl : ws.length = m := I4.wl.trans HL.out.1
      rw [hwl] at hvw
      have ROW := (I4.mem.ro (v0, o) (List.mem_of_getElem? hw)).1
      simp only at ROW
      rw [hv0] at ROW
      obtain ⟨ol, hol2⟩ : ∃ ol, o.length = ol := ⟨_, rfl⟩
      have RD := Lib.hid (fun W (hW : Below w4.heap.size w4 W) => Reads.own (k := .u8) (zs := o) (row_kept ROW hW) (by omega))
      have B5 := (Below.refl w4.heap.size w4).alloc (Nat.le_refl _) (.cells #[.int .i64 s.cls, .int .i64 s.no, .int .i64 s.at', .int .i64 s.gen] 37)
      have R5 := heap_alloc_new w4 (.cells #[.int .i64 s.cls, .int .i64 s.no, .int .i64 s.at', .int .i64 s.gen] 37)
      have CP := Lib.hid (copy_use (I4.mem.cb.cm.below B5) u hE hyo hol)
      have HB4 := Lib.hid hb4
      have HCW := Lib.hid cw
      have HOL := Lib.hid hol2
      rw [hol2] at cw CP RD
      have HVW := Lib.hid hvw
      rw [hvw]
      clear I4 ROW hs hw u hE hyl hys hyo hvw hv0 hle hol hol2 hb4
      have hil' : (i : Int) < (m : Int) := by omega
      go_upto_region 53 with fail
      generalize w4.alloc (.cells #[.int .i64 s.cls, .int .i64 s.no, .int .i64 s.at', .int .i64 s.gen] 37) = W5 at *
      obtain ⟨q0, q1, q2, q3⟩ := cells4 R5
      have HB5 := Lib.hid B5
      clear c0 c1 c2 c3 R5 B5
      go_wp2_with fail
      refine CP.out.mono ?_
      rintro e w6 ⟨va2, vcap2, rfl, _, hrd, hb6⟩
      have B6 := Lib.hid (HB5.out.trans (hb6.mono HB5.out.size))
      have EQ := Lib.hid (equal_oct hrd HOL.out (RD.out w6 B6.out) HOL.out)
      have cw := old_cell B6.out cw
      clear hrd hb6 CP q0 q1 q2 q3
      go_wp2_with fail
      refine EQ.out.mono ?_
      rintro e w7 ⟨rfl, hw7⟩
      obtain rfl := hw7.symm
      clear hw7 EQ
      go_wp2_with fail
      refine Handed.intro (m - (i + 1)) (by omega) (hJ2 _ _ _ (by kernel_rfl) ⟨i + 1, by omega, rfl, rfl, rfl, rfl, rfl, rfl, rfl, rfl, HVW.out.symm, rfl, rfl, by first | rfl | simp, HB4.out.trans (B6.out.mono HB4.out.size)⟩)
    · have hil' : ¬ (i : Int) < (m : Int) := by omega
      have HI4 := Lib.hid (HI.out.below hb4)
      clear hb4 HI hJ2
      go_wp2_with fail
      refine wp_loop_framed 327 (fun g f wr => ∃ i : Nat, i ≤ mg ∧ g = mg - i ∧ f 7 = .pointer (some ⟨bp, 0, none⟩) ∧ f 8 = .pointer (some ⟨c, 0, none⟩) ∧ f 55 = .slice (some ⟨lb, lo, none⟩) M cc ∧ f 56 = .int .i64 (M : Int) ∧ f 57 = .int .i64 (k : Int) ∧ f 10 = .slice ai m ci ∧ f 11 = .slice ag mg cg ∧ f 12 = vw' ∧ f 302 = .slice ag mg cg ∧ f 303 = .int .i64 (mg : Int) ∧ f 304 = .int .i64 (i : Int) ∧ Below w4.heap.size w4 wr) _ _ (by kernel_rfl) mg ⟨0, Nat.zero_le _, rfl, rfl, rfl, rfl, rfl, rfl, rfl, rfl, rfl, rfl, rfl, rfl, Below.refl _ _⟩ ?_
      clear f hil hil' hg2 hi
      intro g2 f w5 ⟨i, hi, hg2, f7, f8, f55, f56, f57, f10, f11, f12, f302, f303, f304, hb5⟩ J3 K3 hJ3 hK3
      rw [slots327]
      rw [f7, f8, f10, f11, f12, f55, f56, f57, f302, f303, f304]
      clear f7 f8 f10 f11 f12 f55 f56 f57 f302 f303 f304
      by_cases hil : i < mg
      · as_aux_lemma =>
        have I5 := HI4.out.below hb5
        obtain ⟨s, hs⟩ : ∃ s, gs[i]? = some s := ⟨_, List.getElem?_eq_getElem (by have := HL.out.2; omega)⟩
        obtain ⟨gi, cap1, hai, c0, c1, c2, c3, _⟩ := slot_row I5.mem.rg hs
        simp only [Value.slice.injEq] at hai
        obtain ⟨rfl, k6, rfl⟩ := hai
        clear k6
        have hv := (I5.law.dead s (List.mem_of_getElem? hs)).val
        have B6 := (Below.refl w5.heap.size w5).alloc (Nat.le_refl _) (.cells #[.int .i64 s.cls, .int .i64 s.no, .int .i64 s.at', .int .i64 s.gen] 37)
        have R6 := heap_alloc_new w5 (.cells #[.int .i64 s.cls, .int .i64 s.no, .int .i64 s.at', .int .i64 s.gen] 37)
        have VA := Lib.hid (valid_is (I5.mem.cb.cm.below B6) s.cls s.no s.at' s.gen)
        have hE2 : (valE S s.cls s.no s.at' s.gen == 0) = false := by simpa using hv
        generalize valE S s.cls s.no s.at' s.gen = E at *
        have HB5 := Lib.hid hb5
        clear I5 hs hb5
        have hil' : (i : Int) < (mg : Int) := by omega
        go_upto_region 60 with fail
        generalize w5.alloc (.cells #[.int .i64 s.cls, .int .i64 s.no, .int .i64 s.at', .int .i64 s.gen] 37) = W6 at *
        obtain ⟨q0, q1, q2, q3⟩ := cells4 R6
        have HB6 := Lib.hid B6
        clear c0 c1 c2 c3 R6 B6
        go_wp2_with fail
        refine VA.out.mono ?_
        rintro e w7 ⟨he, hb7⟩
        subst he
        have B7 := Lib.hid (HB5.out.trans ((HB6.out.trans (hb7.mono HB6.out.size)).mono HB5.out.size))
        clear hb7 VA q0 q1 q2 q3
        go_wp2_with fail
        refine Handed.intro (mg - (i + 1)) (by omega) (hJ3 _ _ _ (by kernel_rfl) ⟨i + 1, by omega, rfl, rfl, rfl, rfl, rfl, rfl, rfl, rfl, rfl, rfl, rfl, by first | rfl | simp, B7.out⟩)
      · have hil' : ¬ (i : Int) < (mg : Int) := by omega
        have HI5 := Lib.hid (HI4.out.below hb5)
        clear hb5 HI4 hJ3
        have hU : usedAll S.sl = m := by
          rw [HI5.out.law.cnt, List.length_zip, HI5.out.ol, HL.out.1]
          simp
        have SLT := slotsS_any HI5.out.mem.cb.cm
        rw [hU] at SLT
        have SLT := Lib.hid SLT
        have HDR := Lib.hid (fun W (hW : Below w5.heap.size w5 W) => (HI5.out.below hW).mem.cb.held)
        have RMR := Lib.hid (fun W (hW : Below w5.heap.size w5 W) => roomS_any (HI5.out.below hW).mem.cb.cm)
        rw [HI5.out.tot] at RMR
        have FIN := Lib.hid (fun W (hW : Below w5.heap.size w5 W) => (show SlT w c bp (k + 1) (.slice ai m ci) (.slice ag mg cg) vw' W from ⟨S, vc, vs, F, G, n, b, ss, gs, ws, HI5.out.below hW, hs1, hs2⟩))
        clear hU hs1 hs2
        go_upto_region 63 with fail
        go_wp2_with fail
        refine SLT.out.mono ?_
        rintro e w6 ⟨a6, cap6, rfl, hb6⟩
        have HB6 := Lib.hid hb6
        clear hb6
        go_wp2_with fail
        refine (HDR.out w6 HB6.out).mono ?_
        rintro e w7 ⟨rfl, hw7⟩
        obtain rfl := hw7.symm
        clear hw7
        go_wp2_with fail
        refine (RMR.out w6 HB6.out).mono ?_
        rintro e w7 ⟨rfl, hw7⟩
        obtain rfl := hw7.symm
        clear hw7
        go_wp2_with fail
        refine Handed.intro (M - (k + 1)) (by omega) (hJ _ _ _ (by kernel_rfl) ⟨k + 1, _, _, _, by omega, rfl, rfl, rfl, rfl, rfl, by first | rfl | simp, rfl, rfl, rfl, FIN.out w6 HB6.out⟩)
    --]]T
  · have FIN := Lib.hid hI.mem.bel
    have hk' : ¬ (k : Int) < (M : Int) := by omega
    clear hI
    go_wp2_with fail
    go_ret
    exact ⟨rfl, FIN.out⟩

end Go.Proofs.Ytiaedonhbafpjaa
