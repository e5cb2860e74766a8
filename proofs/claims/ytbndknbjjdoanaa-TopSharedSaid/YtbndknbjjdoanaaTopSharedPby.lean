/-
  The walk of TopShared. No conditions.
-/
import Derived.Test.YtbndknbjjdoanaaTopSharedPbx
import Derived.Lib.AppendZeros
import Derived.Deep.LoopGhost
import Derived.Deep.Cut
import Derived.Deep.CutBlock
import Derived.Deep.CutRange
import Derived.Deep.DeepCutAuto
namespace Go.Proofs.Ytbndknbjjdoanaa
open Go.RowKit
set_option linter.unusedVariables false

set_option maxRecDepth 100000 in
theorem slots362 (f : Nat → Value) : slotsOf 362 f = f 0 :: f 1 :: f 2 :: f 3 :: f 4 :: f 5 :: f 6 :: f 7 :: f 8 :: f 9 :: f 10 :: f 11 :: f 12 :: f 13 :: f 14 :: f 15 :: f 16 :: f 17 :: f 18 :: f 19 :: f 20 :: f 21 :: f 22 :: f 23 :: f 24 :: f 25 :: f 26 :: f 27 :: f 28 :: f 29 :: f 30 :: f 31 :: f 32 :: f 33 :: f 34 :: f 35 :: f 36 :: f 37 :: f 38 :: f 39 :: f 40 :: f 41 :: f 42 :: f 43 :: f 44 :: f 45 :: f 46 :: f 47 :: f 48 :: f 49 :: f 50 :: f 51 :: f 52 :: f 53 :: f 54 :: f 55 :: f 56 :: f 57 :: f 58 :: f 59 :: f 60 :: f 61 :: f 62 :: f 63 :: f 64 :: f 65 :: f 66 :: f 67 :: f 68 :: f 69 :: f 70 :: f 71 :: f 72 :: f 73 :: f 74 :: f 75 :: f 76 :: f 77 :: f 78 :: f 79 :: f 80 :: f 81 :: f 82 :: f 83 :: f 84 :: f 85 :: f 86 :: f 87 :: f 88 :: f 89 :: f 90 :: f 91 :: f 92 :: f 93 :: f 94 :: f 95 :: f 96 :: f 97 :: f 98 :: f 99 :: f 100 :: f 101 :: f 102 :: f 103 :: f 104 :: f 105 :: f 106 :: f 107 :: f 108 :: f 109 :: f 110 :: f 111 :: f 112 :: f 113 :: f 114 :: f 115 :: f 116 :: f 117 :: f 118 :: f 119 :: f 120 :: f 121 :: f 122 :: f 123 :: f 124 :: f 125 :: f 126 :: f 127 :: f 128 :: f 129 :: f 130 :: f 131 :: f 132 :: f 133 :: f 134 :: f 135 :: f 136 :: f 137 :: f 138 :: f 139 :: f 140 :: f 141 :: f 142 :: f 143 :: f 144 :: f 145 :: f 146 :: f 147 :: f 148 :: f 149 :: f 150 :: f 151 :: f 152 :: f 153 :: f 154 :: f 155 :: f 156 :: f 157 :: f 158 :: f 159 :: f 160 :: f 161 :: f 162 :: f 163 :: f 164 :: f 165 :: f 166 :: f 167 :: f 168 :: f 169 :: f 170 :: f 171 :: f 172 :: f 173 :: f 174 :: f 175 :: f 176 :: f 177 :: f 178 :: f 179 :: f 180 :: f 181 :: f 182 :: f 183 :: f 184 :: f 185 :: f 186 :: f 187 :: f 188 :: f 189 :: f 190 :: f 191 :: f 192 :: f 193 :: f 194 :: f 195 :: f 196 :: f 197 :: f 198 :: f 199 :: f 200 :: f 201 :: f 202 :: f 203 :: f 204 :: f 205 :: f 206 :: f 207 :: f 208 :: f 209 :: f 210 :: f 211 :: f 212 :: f 213 :: f 214 :: f 215 :: f 216 :: f 217 :: f 218 :: f 219 :: f 220 :: f 221 :: f 222 :: f 223 :: f 224 :: f 225 :: f 226 :: f 227 :: f 228 :: f 229 :: f 230 :: f 231 :: f 232 :: f 233 :: f 234 :: f 235 :: f 236 :: f 237 :: f 238 :: f 239 :: f 240 :: f 241 :: f 242 :: f 243 :: f 244 :: f 245 :: f 246 :: f 247 :: f 248 :: f 249 :: f 250 :: f 251 :: f 252 :: f 253 :: f 254 :: f 255 :: f 256 :: f 257 :: f 258 :: f 259 :: f 260 :: f 261 :: f 262 :: f 263 :: f 264 :: f 265 :: f 266 :: f 267 :: f 268 :: f 269 :: f 270 :: f 271 :: f 272 :: f 273 :: f 274 :: f 275 :: f 276 :: f 277 :: f 278 :: f 279 :: f 280 :: f 281 :: f 282 :: f 283 :: f 284 :: f 285 :: f 286 :: f 287 :: f 288 :: f 289 :: f 290 :: f 291 :: f 292 :: f 293 :: f 294 :: f 295 :: f 296 :: f 297 :: f 298 :: f 299 :: f 300 :: f 301 :: f 302 :: f 303 :: f 304 :: f 305 :: f 306 :: f 307 :: f 308 :: f 309 :: f 310 :: f 311 :: f 312 :: f 313 :: f 314 :: f 315 :: f 316 :: f 317 :: f 318 :: f 319 :: f 320 :: f 321 :: f 322 :: f 323 :: f 324 :: f 325 :: f 326 :: f 327 :: f 328 :: f 329 :: f 330 :: f 331 :: f 332 :: f 333 :: f 334 :: f 335 :: f 336 :: f 337 :: f 338 :: f 339 :: f 340 :: f 341 :: f 342 :: f 343 :: f 344 :: f 345 :: f 346 :: f 347 :: f 348 :: f 349 :: f 350 :: f 351 :: f 352 :: f 353 :: f 354 :: f 355 :: f 356 :: f 357 :: f 358 :: f 359 :: f 360 :: f 361 :: [] := rfl

set_option maxHeartbeats 8000000 in
set_option maxRecDepth 100000 in
theorem topShared (sz : Int) (v : Value) (L : List Cl) (w : World) (_ : -9223372036854775808 ≤ sz ∧ sz ≤ 9223372036854775807) (hops : ClsIn w v L ∧ (∀ e ∈ L, e.d.length ≤ 140737488351232) ∧ ∃ a c, v = .slice a L.length c ∧ L.length ≤ c ∧ c ≤ 9223372036854775807)
    (hcaps : ∀ b o n c, v = .slice (some ⟨b, o, none⟩) n c → ∀ k, k < n → ∀ dv, w.cell? ⟨b, o + k * 5 + 4, none⟩ = some dv → capsOk dv) :
    Calls Try.prog 4 #[.int .i64 sz, v] w (LawPost w) := by
  obtain ⟨⟨a, cap, rfl, hll, hcell⟩, hfit, a', cap', hac, hlc, hcm⟩ := hops
  simp only [Value.slice.injEq] at hac
  obtain ⟨rfl, _, rfl⟩ := hac
  have HLC := Lib.hid (And.intro hlc hcm)
  have HC := Lib.hid hcell
  have HF := Lib.hid hfit
  have HK := Lib.hid hcaps
  clear hcell hfit hlc hcm hcaps
  go_enter Try.func4, Try.ntmps4
  go_wp2_with fail
  refine (awakeRoomB_any w).mono ?_
  rintro e w1 ⟨rfl, hb1⟩
  have B1 := Lib.hid hb1
  clear hb1
  go_wp2_with fail
  refine (bigBookB_any w1).mono ?_
  rintro e w2 ⟨bp, rfl, hbk2, hb2⟩
  have B2 := Lib.hid (B1.out.trans (hb2.mono B1.out.size))
  have HBK := Lib.hid hbk2
  clear hb2 hbk2
  go_wp2_with fail
  refine (newPoolB_any bp sz w2 _ HBK.out).mono ?_
  rintro e w3 ⟨hb3, ⟨_, rfl⟩ | ⟨hsz, pp, rfl, Z3, hsp3, hZ3⟩⟩
  · have B3 := Lib.hid (B2.out.trans (hb3.mono B2.out.size))
    clear hb3
    go_wp2_with fail
    go_ret
    exact ⟨rfl, B3.out⟩
  obtain ⟨sn, rfl⟩ : ∃ sn : Nat, sz = sn := ⟨sz.toNat, by omega⟩
  rw [Int.toNat_natCast] at hsp3
  have B3 := Lib.hid (B2.out.trans (hb3.mono B2.out.size))
  have HZ3 : Hid (∀ k, Z3 k → w.heap.size ≤ k) := Lib.hid (fun k hk => by
    have h1 := B1.out.size
    have h2 := B2.out.size
    rcases hZ3 k hk with hk | hk
    · omega
    · omega)
  have START := Lib.hid (SvE.new B3.out hsp3 HZ3.out)
  have hmm := @run_makeMap Try.prog
  clear hb3 hsp3 hZ3 hsz HZ3 B3 B2 B1 HBK
  obtain ⟨M, hM⟩ : ∃ M, min L.length 30 = M := ⟨_, rfl⟩
  have HM : Hid (M ≤ L.length ∧ M ≤ 30) := Lib.hid (by omega)
  have HMM := Lib.hid hM
  clear hM
  go_upto_region 10 with fail
  generalize w3.alloc (.map #[] 0) = w4 at *
  generalize w3.heap.size = mp at *
  clear hmm
  refine wp_cut_framed 362 (fun f wx => ∃ c, f 5 = .pointer (some ⟨bp, 0, none⟩) ∧ f 6 = .pointer (some ⟨pp, 0, none⟩) ∧ f 8 = .map (some mp) ∧ f 48 = .slice a M c ∧ f 49 = .int .i64 (M : Int) ∧ f 50 = .int .i64 0 ∧ wx = w4) _ _ ?_ ?_
  · intro J K' hJ hK
    have hlc := HLC.out
    by_cases h40 : 30 < L.length
    · as_aux_lemma =>
      obtain rfl : M = 30 := by have := HMM.out; omega
      have hmin : min (L.length : Int) 30 = 30 := by omega
      go_wp2_with fail
      refine Met.intro (hJ _ _ (by kernel_rfl) ⟨_, rfl, rfl, rfl, by first | rfl | simp, rfl, rfl, rfl⟩)
    · as_aux_lemma =>
      obtain rfl : M = L.length := by have := HMM.out; omega
      have hmin : min (L.length : Int) 30 = (L.length : Int) := by omega
      go_wp2_with fail
      refine Met.intro (hJ _ _ (by kernel_rfl) ⟨_, rfl, rfl, rfl, by first | rfl | simp, rfl, rfl, rfl⟩)
  · intro f wx ⟨cc, f5, f6, f8, f48, f49, f50, hwx⟩
    subst hwx
    rw [slots362]
    rw [f5, f6, f8, f48, f49, f50]
    clear f5 f6 f8 f48 f49 f50
    go_wp2_with fail
    refine wp_loop_framed 362 (fun g f wr => ∃ k : Nat, k ≤ M ∧ g = M - k ∧ f 5 = .pointer (some ⟨bp, 0, none⟩) ∧ f 6 = .pointer (some ⟨pp, 0, none⟩) ∧ f 8 = .map (some mp) ∧ f 48 = .slice a M cc ∧ f 49 = .int .i64 (M : Int) ∧ f 50 = .int .i64 (k : Int) ∧ SvE w pp bp mp k wr) _ _ (by kernel_rfl) M ⟨0, Nat.zero_le _, rfl, rfl, rfl, rfl, rfl, rfl, rfl, START.out⟩ ?_
    clear f
    intro g f wr ⟨k, hk, hg, f5, f6, f8, f48, f49, f50, P, Z, Y, R, D, hI⟩ J K hJ hK
    rw [slots362]
    rw [f5, f6, f8, f48, f49, f50]
    clear f5 f6 f8 f48 f49 f50
    clear START
    have hm30 := HM.out.2
    by_cases hlt : k < M
    · as_aux_lemma =>
      obtain ⟨b, o, ha, c5⟩ := HC.out k (by have := HM.out; omega)
      subst ha
      have hln := HF.out (L.getD k Cl.zero) (by
        have hk' : k < L.length := by have := HM.out; omega
        rw [List.getD_eq_getElem?_getD, List.getElem?_eq_getElem hk']
        exact List.getElem_mem hk')
      obtain ⟨g0, g1, g2, g3, dv, g4, hrd, hz, hfk, hfa, hfb, hfc⟩ := c5
      have hcp := HK.out b o _ _ rfl k (by have := HM.out; omega) dv g4
      have hb := hI.bel
      have g0 := old_cell hb g0
      have g1 := old_cell hb g1
      have g2 := old_cell hb g2
      have g3 := old_cell hb g3
      have g4 := old_cell hb g4
      obtain ⟨da, dn, dc, rfl, hd1, hd2⟩ := hcp
      generalize L.getD k Cl.zero = cl at *
      obtain ⟨ck, ca, cb, cc', cd⟩ := cl
      simp only at g0 g1 g2 g3 g4 hrd hz hln hfa hfb hfc hfk
      have hdn : cd.length = dn := by
        obtain ⟨_, _, he, _⟩ := hrd
        simp only [Value.slice.injEq] at he
        omega
      have HRD := Lib.hid hrd
      have HDN := Lib.hid hdn
      rw [hdn] at hln
      have HDC := Lib.hid (And.intro hd1 (And.intro hd2 hln))
      have HBZ := Lib.hid (opB5 hz)
      have HFA := Lib.hid (show (-9223372036854775808 ≤ ca ∧ ca ≤ 9223372036854775807) ∧ (-9223372036854775808 ≤ cb ∧ cb ≤ 9223372036854775807) ∧ (-9223372036854775808 ≤ cc' ∧ cc' ≤ 9223372036854775807) from ⟨hfa, hfb, hfc⟩)
      have BX := (Below.refl wr.heap.size wr).alloc (Nat.le_refl _) (.cells #[.int .i64 ck, .int .i64 ca, .int .i64 cb, .int .i64 cc', .slice da dn dc] 47)
      have HX1 : Hid (OpB5 wr.heap.size ck ca cb cc' (.slice da dn dc) (wr.alloc (.cells #[.int .i64 ck, .int .i64 ca, .int .i64 cb, .int .i64 cc', .slice da dn dc] 47))) := Lib.hid (heap_alloc_new wr _)
      have S1 := Lib.hid (hI.below BX)
      have HXT : Hid (¬ Z wr.heap.size ∧ ¬ Y wr.heap.size) := Lib.hid ⟨fun hk => Nat.lt_irrefl _ (hI.sp.lt _ hk), fun hk => Nat.lt_irrefl _ (hI.pl.yl _ hk)⟩
      have LK := S1.out.pl.look ca hfa
      obtain ⟨hRow, hRB, hRY⟩ := S1.out.pl.row ca
      obtain ⟨ra, rc, hro⟩ : ∃ ra rc, rowOf (rowAt R ca) = .slice ra (octAt R ca).length rc := by
        rcases hRow.2 with ⟨h1, h2⟩ | ⟨g, cap, cur, h1, _⟩
        · exact ⟨_, _, by rw [h1, h2]⟩
        · exact ⟨_, _, h1⟩
      obtain ⟨xs, hxs⟩ : ∃ xs, octAt R ca = xs := ⟨_, rfl⟩
      obtain ⟨xn, hxn⟩ : ∃ xn, xs.length = xn := ⟨_, rfl⟩
      rw [hxs] at hRow hRB hro
      rw [hxn] at hro
      rw [hro] at LK hRow hRY
      have HRO := Lib.hid hro
      have HXS := Lib.hid (And.intro hxs hxn)
      have HRW := Lib.hid (And.intro hRow (And.intro hRB hRY))
      clear hrd hz hb BX hI hdn hfk hfa hfb hfc hd1 hd2 hln hRow hRB hRY hro hxs hxn
      have t0 := HX1.out.cells.1
      have t1 := HX1.out.cells.2.1
      go_upto_block 2 with fail
      generalize wr.alloc (.cells #[.int .i64 ck, .int .i64 ca, .int .i64 cb, .int .i64 cc', .slice da dn dc] 47) = W1 at *
      generalize wr.heap.size = bx at *
      clear g0 g1 g2 g3 g4 t0 t1 LK
      refine wp_cut_framed 362 (fun f wx => f 5 = .pointer (some ⟨bp, 0, none⟩) ∧ f 6 = .pointer (some ⟨pp, 0, none⟩) ∧ f 8 = .map (some mp) ∧ f 48 = .slice (some ⟨b, o, none⟩) M cc ∧ f 49 = .int .i64 (M : Int) ∧ f 50 = .int .i64 (k : Int) ∧ SvE w pp bp mp (k + 1) wx) _ _ ?_ ?_
      · clear hJ hK
        intro J K' hJ hK
        by_cases k0 : ck = 0
        · as_aux_lemma =>
          subst k0
          obtain ⟨n0, n1, n2, n3, n4⟩ := HX1.out.cells
          have PO := Lib.hid (make_any S1.out.sp da dn dc cd (fun W hW => HRD.out.below (S1.out.bel.trans (hW.below S1.out.bel.size S1.out.zb)) rfl) HDN.out HDC.out.1 HDC.out.2.1 (by have := HDC.out.2.2; omega) HBZ.out ⟨by have := S1.out.lb; omega, by have := S1.out.ls; omega⟩)
          go_wp2_with fail
          refine PO.out.mono ?_
          intro e W2 hp
          rcases hp.out S1.out.sp.ok with ⟨E, hE, rfl, hkp⟩ | ⟨rfl, hm⟩
          · clear hp PO n0 n1 n2 n3 n4
            have hE1 : (E == 0) = false := by simp; exact hE
            have FIN := Lib.hid (S1.out.kept hkp)
            clear hkp hE
            go_wp2_with fail
            refine Met.intro (hJ _ _ (by kernel_rfl) ⟨rfl, rfl, rfl, rfl, rfl, rfl, FIN.out⟩)
          · obtain ⟨key, hkey⟩ : ∃ key : Int, ((P.lastS + 1 : Nat) : Int) = key := ⟨_, rfl⟩
            have HKEY := Lib.hid hkey
            rw [hkey]
            obtain ⟨P', Z', g, _, _⟩ := id hm
            have X2 := Lib.hid (HX1.out.touch g.nx.2 HXT.out.1)
            obtain ⟨rw2, rb2, bw2⟩ := S1.out.rowW g HRO.out HXS.out.1
            have RW2 := Lib.hid rw2
            have BW2 := Lib.hid bw2
            have RB2 := Lib.hid rb2
            obtain ⟨m0, m1, m2, m3, m4⟩ := X2.out.cells
            clear rw2 rb2 bw2
            have HM2 := Lib.hid hm
            have CL := Lib.hid (clone_bytes da dn dc cd W2 (HRD.out.below BW2.out rfl) HDN.out (by have := HDC.out.2.2; omega))
            clear hm g hkey hp PO n0 n1 n2 n3 n4
            go_wp2_with fail
            refine CL.out.mono ?_
            rintro e W3 ⟨o3, rfl, hr3, hb3⟩
            obtain ⟨W4, hrun, hE4⟩ := S1.out.more HM2.out hb3 hr3 HBZ.out (by omega)
            rw [HKEY.out] at hrun
            have FIN := Lib.hid hE4
            clear hr3 hb3 hE4 CL m0 m1 m2 m3 m4
            go_wp2_with (at_mapUpdate; go_must (refine wpList_update_runP rfl _ _ _ _ rfl (by rfl) (by rfl) (by rfl) hrun ?_))
            clear hrun
            go_wp2_with fail
            refine Met.intro (hJ _ _ (by kernel_rfl) ⟨rfl, rfl, rfl, rfl, rfl, rfl, FIN.out⟩)
        · have e0 : (ck == 0) = false := beq_eq_false_iff_ne.2 k0
          by_cases k1 : ck = 1
          · as_aux_lemma =>
            subst k1
            obtain ⟨n0, n1, n2, n3, n4⟩ := HX1.out.cells
            have PO := Lib.hid (drop_any S1.out.sp ca HFA.out.1)
            go_wp2_with fail
            refine PO.out.mono ?_
            intro e W2 hp
            rcases hp.out with ⟨E, hE, rfl, hkp⟩ | ⟨rfl, hsome, P', Z', g, hks, hcn⟩
            · clear hp PO n0 n1 n2 n3 n4
              have hE1 : (E == 0) = false := by simp; exact hE
              have FIN := Lib.hid (S1.out.kept hkp)
              clear hkp hE
              go_wp2_with fail
              refine Met.intro (hJ _ _ (by kernel_rfl) ⟨rfl, rfl, rfl, rfl, rfl, rfl, FIN.out⟩)
            · 
              have X2 := Lib.hid (HX1.out.touch g.nx.2 HXT.out.1)
              obtain ⟨rw2, rb2, bw2⟩ := S1.out.rowW g HRO.out HXS.out.1
              have RW2 := Lib.hid rw2
              have BW2 := Lib.hid bw2
              have RB2 := Lib.hid rb2
              obtain ⟨m0, m1, m2, m3, m4⟩ := X2.out.cells
              clear rw2 rb2 bw2
              have hkey := Maps.keyOf_int_mk (P := Try.prog) (k := 3) Try.underlying3 (a := ca) (WalkArith.wf_i64 HFA.out.1)
              have hown := (S1.out.went g).2.1.m
              have HG := Lib.hid (And.intro g (And.intro hsome (And.intro hks hcn)))
              clear hp PO n0 n1 n2 n3 n4 g hsome hks hcn
              go_wp2_with (at_delete; go_must (refine wpList_delete_own _ rfl _ _ 45 3 rfl 22 intKey Try.underlying45 rowElem mp R.length D rfl (by exact hown) (.int .i64 ca) (.int .i64 ca) rfl hkey ?_))
              intro W3 hown3 hturn
              have FIN := Lib.hid (S1.out.dropped HG.out.2.1 HG.out.1 HG.out.2.2.1 HG.out.2.2.2 hown3 hturn.grown)
              clear hown hown3 hturn m0 m1 m2 m3 m4
              go_wp2_with fail
              refine Met.intro (hJ _ _ (by kernel_rfl) ⟨rfl, rfl, rfl, rfl, rfl, rfl, FIN.out⟩)
          · have e1 : (ck == 1) = false := beq_eq_false_iff_ne.2 k1
            by_cases k2 : ck = 2
            · as_aux_lemma =>
              subst k2
              obtain ⟨n0, n1, n2, n3, n4⟩ := HX1.out.cells
              have PO := Lib.hid (cloneS_any S1.out.sp ca HFA.out.1 ⟨by have := S1.out.lb; omega, by have := S1.out.ls; omega⟩)
              go_wp2_with fail
              refine PO.out.mono ?_
              intro e W2 hp
              obtain ⟨ys, hys, hout⟩ := hp.out S1.out.sp.ok
              rcases hout with ⟨E, hE, rfl, hkp⟩ | ⟨rfl, hm⟩
              · clear hp hys PO n0 n1 n2 n3 n4
                have hE1 : (E == 0) = false := by simp; exact hE
                have FIN := Lib.hid (S1.out.kept hkp)
                clear hkp hE
                go_wp2_with fail
                refine Met.intro (hJ _ _ (by kernel_rfl) ⟨rfl, rfl, rfl, rfl, rfl, rfl, FIN.out⟩)
              · obtain ⟨key, hkey⟩ : ∃ key : Int, ((P.lastS + 1 : Nat) : Int) = key := ⟨_, rfl⟩
                have HKEY := Lib.hid hkey
                rw [hkey]
                obtain ⟨P', Z', g, _, _⟩ := id hm
                have X2 := Lib.hid (HX1.out.touch g.nx.2 HXT.out.1)
                obtain ⟨rw2, rb2, bw2⟩ := S1.out.rowW g HRO.out HXS.out.1
                have RW2 := Lib.hid rw2
                have BW2 := Lib.hid bw2
                have RB2 := Lib.hid rb2
                obtain ⟨m0, m1, m2, m3, m4⟩ := X2.out.cells
                clear rw2 rb2 bw2
                have hys2 := hys ⟨_, _, rfl, rfl⟩
                obtain ⟨_, _, _, h4⟩ := S1.out.look hys2
                have exs : xs = ys := HXS.out.1.symm.trans h4
                rw [← exs] at hm
                have hsh := (S1.out.sp.short hys2).1
                rw [← exs] at hsh
                have HSH := Lib.hid hsh
                have HM2 := Lib.hid hm
                have CL := Lib.hid (clone_bytes ra xn rc xs W2 (reads_row RW2.out (by omega)) HXS.out.2 (by have := HXS.out.2; omega))
                clear hys hys2 h4 exs hsh hm g hkey hp PO n0 n1 n2 n3 n4
                go_wp2_with fail
                refine CL.out.mono ?_
                rintro e W3 ⟨o3, rfl, hr3, hb3⟩
                obtain ⟨W4, hrun, hE4⟩ := S1.out.more HM2.out hb3 hr3 RB2.out (by omega)
                rw [HKEY.out] at hrun
                have FIN := Lib.hid hE4
                clear hr3 hb3 hE4 CL m0 m1 m2 m3 m4
                go_wp2_with (at_mapUpdate; go_must (refine wpList_update_runP rfl _ _ _ _ rfl (by rfl) (by rfl) (by rfl) hrun ?_))
                clear hrun
                go_wp2_with fail
                refine Met.intro (hJ _ _ (by kernel_rfl) ⟨rfl, rfl, rfl, rfl, rfl, rfl, FIN.out⟩)
            · have e2 : (ck == 2) = false := beq_eq_false_iff_ne.2 k2
              by_cases k3 : ck = 3
              · as_aux_lemma =>
                subst k3
                obtain ⟨n0, n1, n2, n3, n4⟩ := HX1.out.cells
                have PO := Lib.hid (slice_any S1.out.sp ca cb cc' HFA.out.1 ⟨by have := S1.out.lb; omega, by have := S1.out.ls; omega⟩)
                go_wp2_with fail
                refine PO.out.mono ?_
                intro e W2 hp
                obtain ⟨ys, zs, hys, hout⟩ := hp.out S1.out.sp
                rcases hout with ⟨E, hE, rfl, hkp⟩ | ⟨rfl, hm⟩
                · clear hp hys PO n0 n1 n2 n3 n4
                  have hE1 : (E == 0) = false := by simp; exact hE
                  have FIN := Lib.hid (S1.out.kept hkp)
                  clear hkp hE
                  go_wp2_with fail
                  refine Met.intro (hJ _ _ (by kernel_rfl) ⟨rfl, rfl, rfl, rfl, rfl, rfl, FIN.out⟩)
                · obtain ⟨key, hkey⟩ : ∃ key : Int, ((P.lastS + 1 : Nat) : Int) = key := ⟨_, rfl⟩
                  have HKEY := Lib.hid hkey
                  rw [hkey]
                  obtain ⟨P', Z', g, _, _⟩ := id hm
                  have X2 := Lib.hid (HX1.out.touch g.nx.2 HXT.out.1)
                  obtain ⟨rw2, rb2, bw2⟩ := S1.out.rowW g HRO.out HXS.out.1
                  have RW2 := Lib.hid rw2
                  have BW2 := Lib.hid bw2
                  have RB2 := Lib.hid rb2
                  obtain ⟨m0, m1, m2, m3, m4⟩ := X2.out.cells
                  clear rw2 rb2 bw2
                  obtain ⟨hys2, hf0, hft, htl, hzs⟩ := hys rfl
                  obtain ⟨_, _, _, h4⟩ := S1.out.look hys2
                  have exs : xs = ys := HXS.out.1.symm.trans h4
                  rw [← exs] at hzs htl
                  have hsh := (S1.out.sp.short hys2).1
                  rw [← exs] at hsh
                  rw [hzs] at hm
                  obtain ⟨fn, rfl⟩ : ∃ fn : Nat, cb = fn := ⟨cb.toNat, by omega⟩
                  obtain ⟨tn, rfl⟩ : ∃ tn : Nat, cc' = tn := ⟨cc'.toNat, by omega⟩
                  simp only [Int.toNat_natCast] at hm
                  rw [HXS.out.2] at htl hsh
                  have hft' : fn ≤ tn := by omega
                  have htl' : tn ≤ xn := by omega
                  obtain ⟨hc1, hc2⟩ := row_caps' RW2.out
                  have HM2 := Lib.hid hm
                  have CL := Lib.hid (clone_bytes (if rc = fn then ra else Option.map (fun x => x.add fn) ra) (tn - fn) (rc - fn) ((xs.take tn).drop fn) W2 (reads_cut (reads_row RW2.out (by rw [HXS.out.2]; omega)) hc1 hft' htl' _) (by rw [List.length_drop, List.length_take, HXS.out.2]; omega) (by omega))
                  have HBY : Hid (bytes ((xs.take tn).drop fn)) := Lib.hid (fun z hz => RB2.out z (List.mem_of_mem_take (List.mem_of_mem_drop hz)))
                  clear hys hys2 h4 exs hzs hm g hkey hp PO n0 n1 n2 n3 n4 hf0 hft htl
                  obtain ⟨U, hU⟩ : ∃ U, (if rc = fn then ra else Option.map (fun x => x.add fn) ra) = U := ⟨_, rfl⟩
                  rw [hU] at CL
                  have g0 : ¬ (fn : Int) < 0 := by omega
                  have g1 : ¬ (xn : Int) < (tn : Int) := by omega
                  go_wp2_with fail
                  refine CL.out.mono ?_
                  rintro e W3 ⟨o3, rfl, hr3, hb3⟩
                  obtain ⟨W4, hrun, hE4⟩ := S1.out.more HM2.out hb3 hr3 HBY.out (by omega)
                  rw [HKEY.out] at hrun
                  have FIN := Lib.hid hE4
                  clear hr3 hb3 hE4 CL m0 m1 m2 m3 m4 hU
                  go_wp2_with (at_mapUpdate; go_must (refine wpList_update_runP rfl _ _ _ _ rfl (by rfl) (by rfl) (by rfl) hrun ?_))
                  clear hrun
                  go_wp2_with fail
                  refine Met.intro (hJ _ _ (by kernel_rfl) ⟨rfl, rfl, rfl, rfl, rfl, rfl, FIN.out⟩)
              · have e3 : (ck == 3) = false := beq_eq_false_iff_ne.2 k3
                by_cases k4 : ck = 4
                · as_aux_lemma =>
                  subst k4
                  obtain ⟨n0, n1, n2, n3, n4⟩ := HX1.out.cells
                  have PO := Lib.hid (join_any S1.out.sp ca cb HFA.out.1 HFA.out.2.1 ⟨by have := S1.out.lb; omega, by have := S1.out.ls; omega⟩)
                  go_wp2_with fail
                  refine PO.out.mono ?_
                  intro e W2 hp
                  obtain ⟨ys, zs, hys, hout⟩ := hp.out S1.out.sp.ok
                  rcases hout with ⟨E, hE, rfl, hkp⟩ | ⟨rfl, hm⟩
                  · clear hp hys PO n0 n1 n2 n3 n4
                    have hE1 : (E == 0) = false := by simp; exact hE
                    have FIN := Lib.hid (S1.out.kept hkp)
                    clear hkp hE
                    go_wp2_with fail
                    refine Met.intro (hJ _ _ (by kernel_rfl) ⟨rfl, rfl, rfl, rfl, rfl, rfl, FIN.out⟩)
                  · obtain ⟨key, hkey⟩ : ∃ key : Int, ((P.lastS + 1 : Nat) : Int) = key := ⟨_, rfl⟩
                    have HKEY := Lib.hid hkey
                    rw [hkey]
                    obtain ⟨P', Z', g, _, _⟩ := id hm
                    have X2 := Lib.hid (HX1.out.touch g.nx.2 HXT.out.1)
                    obtain ⟨rw2, rb2, bw2⟩ := S1.out.rowW g HRO.out HXS.out.1
                    have RW2 := Lib.hid rw2
                    have BW2 := Lib.hid bw2
                    have RB2 := Lib.hid rb2
                    obtain ⟨m0, m1, m2, m3, m4⟩ := X2.out.cells
                    clear rw2 rb2 bw2
                    obtain ⟨hys2, hzs2⟩ := hys rfl
                    obtain ⟨_, _, _, h4⟩ := S1.out.look hys2
                    obtain ⟨_, _, _, h5⟩ := S1.out.look hzs2
                    have exs : xs = ys := HXS.out.1.symm.trans h4
                    have hsh := (S1.out.sp.short hys2).1
                    have hsh2 := (S1.out.sp.short hzs2).1
                    rw [← exs] at hsh hm
                    have pl2 := (S1.out.went g).2.1
                    have LK2 := pl2.look cb HFA.out.2.1
                    obtain ⟨q1, q2, _⟩ := pl2.row cb
                    rw [h5] at q1 q2
                    obtain ⟨rb, rbc, hrb⟩ : ∃ rb rbc, rowOf (rowAt R cb) = .slice rb zs.length rbc := by
                      rcases q1.2 with ⟨h1, h2⟩ | ⟨g, cap, cur, h1, _⟩
                      · exact ⟨_, _, by rw [h1, h2]⟩
                      · exact ⟨_, _, h1⟩
                    obtain ⟨zn, hzn⟩ : ∃ zn, zs.length = zn := ⟨_, rfl⟩
                    have HM2 := Lib.hid hm
                    have RZ2 := Lib.hid (reads_row q1 (by omega))
                    have RS2 := Lib.hid (reads_row RW2.out (by omega))
                    rw [hzn] at hrb
                    rw [hrb] at LK2 RZ2
                    have CL := Lib.hid (concat_two RS2.out RZ2.out (by rw [List.length_append]; omega))
                    have HBY : Hid (bytes (xs ++ zs)) := Lib.hid (fun z hz => by
                      rcases List.mem_append.1 hz with hz | hz
                      · exact RB2.out z hz
                      · exact q2 z hz)
                    clear hys hys2 hzs2 h4 h5 exs hm g hkey hp PO n0 n1 n2 n3 n4 hsh hsh2 pl2 q1 q2 hrb hzn RZ2 RS2
                    go_wp2_with fail
                    refine CL.out.mono ?_
                    rintro e W3 ⟨o3, rfl, hr3, hb3⟩
                    obtain ⟨W4, hrun, hE4⟩ := S1.out.more HM2.out hb3 hr3 HBY.out (by omega)
                    rw [HKEY.out] at hrun
                    have FIN := Lib.hid hE4
                    clear hr3 hb3 hE4 CL m0 m1 m2 m3 m4 LK2
                    go_wp2_with (at_mapUpdate; go_must (refine wpList_update_runP rfl _ _ _ _ rfl (by rfl) (by rfl) (by rfl) hrun ?_))
                    clear hrun
                    go_wp2_with fail
                    refine Met.intro (hJ _ _ (by kernel_rfl) ⟨rfl, rfl, rfl, rfl, rfl, rfl, FIN.out⟩)
                · have e4 : (ck == 4) = false := beq_eq_false_iff_ne.2 k4
                  by_cases k5 : ck = 5
                  · as_aux_lemma =>
                    subst k5
                    obtain ⟨n0, n1, n2, n3, n4⟩ := HX1.out.cells
                    have PO := Lib.hid (append_any S1.out.sp ca HFA.out.1 da dn dc cd (fun W hW => HRD.out.below (S1.out.bel.trans (hW.below S1.out.bel.size S1.out.zb)) rfl) HDN.out HDC.out.1 HDC.out.2.1 (by have := HDC.out.2.2; omega) HBZ.out ⟨by have := S1.out.lb; omega, by have := S1.out.ls; omega⟩)
                    go_wp2_with fail
                    refine PO.out.mono ?_
                    intro e W2 hp
                    rcases hp.out S1.out.sp with ⟨E, hE, rfl, hkp⟩ | ⟨rfl, ys, hys2, hsh, hcan, hm⟩
                    · clear hp PO n0 n1 n2 n3 n4
                      have hE1 : (E == 0) = false := by simp; exact hE
                      have FIN := Lib.hid (S1.out.kept hkp)
                      clear hkp hE
                      go_wp2_with fail
                      refine Met.intro (hJ _ _ (by kernel_rfl) ⟨rfl, rfl, rfl, rfl, rfl, rfl, FIN.out⟩)
                    · obtain ⟨P', Z', g, _, _⟩ := id hm
                      have X2 := Lib.hid (HX1.out.touch g.nx.2 HXT.out.1)
                      obtain ⟨rw2, rb2, bw2⟩ := S1.out.rowW g HRO.out HXS.out.1
                      have RW2 := Lib.hid rw2
                      have BW2 := Lib.hid bw2
                      have RB2 := Lib.hid rb2
                      obtain ⟨m0, m1, m2, m3, m4⟩ := X2.out.cells
                      clear rw2 rb2 bw2
                      obtain ⟨o9, h9, _, h4⟩ := S1.out.look hys2
                      have exs : xs = ys := HXS.out.1.symm.trans h4
                      obtain ⟨sn', hsn'⟩ : ∃ m, ca.toNat = m := ⟨_, rfl⟩
                      rw [hsn'] at hcan hm
                      rw [hcan] at h9
                      rw [← exs] at hsh hm
                      have HM2 := Lib.hid hm
                      have HH9 := Lib.hid h9
                      have DR : Below W2.heap.size W2 W2.drew := (Below.refl _ W2).drew
                      have RS2 := (reads_row RW2.out (by omega)).below DR rfl
                      have CL := Lib.hid (concat_two RS2 ((HRD.out.below BW2.out rfl).below DR rfl) (by rw [List.length_append]; omega))
                      have HBY : Hid (bytes (xs ++ cd)) := Lib.hid (fun z hz => by
                        rcases List.mem_append.1 hz with hz | hz
                        · exact RB2.out z hz
                        · exact HBZ.out z hz)
                      have HCA := Lib.hid hcan
                      have HDR := Lib.hid DR
                      clear hys2 h4 h9 exs hm g hp PO n0 n1 n2 n3 n4 hsh RS2 hcan hsn' DR
                      go_upto_region 39 with fail
                      clear m0 m1 m2 m3 m4
                      have S0 : OpB5 bx 5 ca cb cc' (.slice da dn dc) W2.drew := X2.out
                      have s1 : ∀ y : WIn (OpB5 bx 5 ca cb cc' (.slice da dn dc)), y.w.cell? ⟨bx, 1, none⟩ = some (.int .i64 ca) := fun y => y.h.cells.2.1
                      have s2 : ∀ y : WIn (OpB5 bx 5 ca cb cc' (.slice da dn dc)), y.w.cell? ⟨bx, 2, none⟩ = some (.int .i64 cb) := fun y => y.h.cells.2.2.1
                      have s3 : ∀ y : WIn (OpB5 bx 5 ca cb cc' (.slice da dn dc)), y.w.cell? ⟨bx, 3, none⟩ = some (.int .i64 cc') := fun y => y.h.cells.2.2.2.1
                      have s4 : ∀ y : WIn (OpB5 bx 5 ca cb cc' (.slice da dn dc)), y.w.cell? ⟨bx, 4, none⟩ = some (.slice da dn dc) := fun y => y.h.cells.2.2.2.2
                      haveI ne : Nonempty (WIn (OpB5 bx 5 ca cb cc' (.slice da dn dc))) := ⟨⟨W2.drew, S0⟩⟩
                      refine wp_normal ?_
                      refine wp_region_plan 8 (OpB5 bx 5 ca cb cc' (.slice da dn dc)) rfl ?_
                      refine wpN_seg [0, 1, 2, 3, 4, 5] (by kernel_rfl) (by kernel_rfl) (by kernel_rfl) (by kernel_rfl) (by decide) (fun _ _ _ _ _ h => h) S0 ?_
                      simp only [pick, List.map_cons, List.map_nil, List.getElem?_cons_succ, List.getElem?_cons_zero, Option.getD_some]
                      repeat (go_big_quiet_step (fail))
                      refine wpQuiet_nil ?_
                      clear s1 s2 s3 s4 ne S0
                      have XD := X2.out.below HDR.out
                      generalize W2.drew = W5 at *
                      refine wpN_one 6 _ (by kernel_rfl) rfl ?_
                      refine NextAt.held ?_
                      intro K1 hK1
                      go_simp
                      refine hK1 _ _ (XD.below ((Below.refl _ W5).alloc (Nat.le_refl _) _)) ?_
                      clear hK1 K1
                      refine wpN_one 7 _ (by kernel_rfl) rfl ?_
                      refine NextAt.held ?_
                      intro K1 hK1
                      go_simp
                      refine CL.out.mono ?_
                      rintro e W6 ⟨o3, rfl, hr3, hb3⟩
                      have X6 := XD.below hb3
                      obtain ⟨W4, hrun, hE4⟩ := S1.out.turned HH9.out HM2.out (HDR.out.trans (hb3.mono HDR.out.size)) (row_low hr3 HDR.out.size) HBY.out (by omega)
                      rw [← HCA.out] at hrun
                      have FIN := Lib.hid hE4
                      clear hr3 hb3 hE4 CL
                      go_simp
                      refine hK1 _ _ X6 ?_
                      clear hK1 K1
                      refine wpN_one 8 _ (by kernel_rfl) rfl ?_
                      refine NextAt.free (by kernel_rfl) ?_
                      intro K1 hK1
                      refine step_update_here rfl _ _ _ _ rfl _ _ _ (by go_simp) (by go_simp) (by go_simp) hrun ?_
                      go_simp
                      refine hK1 _ _ ?_
                      clear hK1 K1 hrun
                      refine wpN_done (by kernel_rfl) ?_
                      go_wp2_with fail
                      refine Met.intro (hJ _ _ (by kernel_rfl) ⟨rfl, rfl, rfl, rfl, rfl, rfl, FIN.out⟩)
                  · have e5 : (ck == 5) = false := beq_eq_false_iff_ne.2 k5
                    by_cases k6 : ck = 6
                    · as_aux_lemma =>
                      subst k6
                      obtain ⟨n0, n1, n2, n3, n4⟩ := HX1.out.cells
                      have PO := Lib.hid (setP_any S1.out.sp ca cb HFA.out.1 HFA.out.2.1 da dn dc cd (fun W hW => HRD.out.below (S1.out.bel.trans (hW.below S1.out.bel.size S1.out.zb)) rfl) HDN.out HDC.out.1 HDC.out.2.1 HBZ.out ⟨by have := S1.out.lb; omega, by have := S1.out.ls; omega⟩)
                      go_wp2_with fail
                      refine PO.out.mono ?_
                      intro e W2 hp
                      rcases hp.out S1.out.sp.ok with ⟨E, hE, rfl, hkp⟩ | ⟨rfl, ys, hys2, hf0, htl, hcan, P', Z', g, hks, hcn⟩
                      · clear hp PO n0 n1 n2 n3 n4
                        have hE1 : (E == 0) = false := by simp; exact hE
                        have FIN := Lib.hid (S1.out.kept hkp)
                        clear hkp hE
                        go_wp2_with fail
                        refine Met.intro (hJ _ _ (by kernel_rfl) ⟨rfl, rfl, rfl, rfl, rfl, rfl, FIN.out⟩)
                      · 
                        have X2 := Lib.hid (HX1.out.touch g.nx.2 HXT.out.1)
                        obtain ⟨rw2, rb2, bw2⟩ := S1.out.rowW g HRO.out HXS.out.1
                        have RW2 := Lib.hid rw2
                        have BW2 := Lib.hid bw2
                        have RB2 := Lib.hid rb2
                        obtain ⟨m0, m1, m2, m3, m4⟩ := X2.out.cells
                        clear rw2 rb2 bw2
                        obtain ⟨o9, h9, h99, h4⟩ := S1.out.look hys2
                        have exs : xs = ys := HXS.out.1.symm.trans h4
                        obtain ⟨sn', hsn'⟩ : ∃ m, ca.toNat = m := ⟨_, rfl⟩
                        rw [hsn'] at hcan hcn
                        rw [hcan] at h9
                        rw [← exs] at htl hcn h9
                        have hsh := (S1.out.sp.short hys2).1
                        rw [← exs] at hsh
                        rw [HDN.out, HXS.out.2] at htl
                        rw [HXS.out.2] at hsh
                        obtain ⟨fn, rfl⟩ : ∃ fn : Nat, cb = fn := ⟨cb.toNat, by omega⟩
                        simp only [Int.toNat_natCast] at hcn
                        have hft' : fn + dn ≤ xn := by omega
                        obtain ⟨hc1, hc2⟩ := row_caps' RW2.out
                        have DR : Below W2.heap.size W2 W2.drew := (Below.refl _ W2).drew
                        obtain ⟨U, hU⟩ : ∃ U, (if rc = fn then ra else Option.map (fun x => x.add fn) ra) = U := ⟨_, rfl⟩
                        obtain ⟨W3, hrun, hr3, ht3⟩ := copy_row (w := W2.drew) (o := rowAt R ca) (xs := xs) (os := cd) (f := fn) (dc := dc) (da := da) (by rw [HRO.out]; exact row_kept RW2.out DR) HRO.out (by rw [HDN.out, HXS.out.2]; exact hft') hU.symm (by have h8 := (HRD.out.below BW2.out rfl).below DR rfl; rw [HDN.out]; exact h8) HBZ.out
                        rw [HDN.out] at hrun
                        have HBY : Hid (bytes (splice xs fn cd)) := Lib.hid (bytes_spliceF RB2.out HBZ.out)
                        have FIN := Lib.hid (S1.out.wrote (xs := splice xs fn cd) (by rw [h9, h99.symm]) g hks hcn hr3 HBY.out (((Touch.refl _ W2).drew).then ht3))
                        have HCP := Lib.hid hrun
                        have g0 : ¬ (fn : Int) < 0 := by omega
                        have g1 : ¬ (xn : Int) < (fn : Int) + (dn : Int) := by omega
                        clear hys2 h4 h9 h99 exs g hp PO n0 n1 n2 n3 n4 hcan hsn' DR hcn hks hr3 ht3 hf0 htl hrun
                        go_upto_region 44 with fail
                        clear m0 m1 m2 m3 m4
                        have hrun := HCP.out
                        have S0 : OpB5 bx 6 ca fn cc' (.slice da dn dc) W2.drew := X2.out
                        have s1 : ∀ y : WIn (OpB5 bx 6 ca fn cc' (.slice da dn dc)), y.w.cell? ⟨bx, 1, none⟩ = some (.int .i64 ca) := fun y => y.h.cells.2.1
                        have s2 : ∀ y : WIn (OpB5 bx 6 ca fn cc' (.slice da dn dc)), y.w.cell? ⟨bx, 2, none⟩ = some (.int .i64 fn) := fun y => y.h.cells.2.2.1
                        have s3 : ∀ y : WIn (OpB5 bx 6 ca fn cc' (.slice da dn dc)), y.w.cell? ⟨bx, 3, none⟩ = some (.int .i64 cc') := fun y => y.h.cells.2.2.2.1
                        have s4 : ∀ y : WIn (OpB5 bx 6 ca fn cc' (.slice da dn dc)), y.w.cell? ⟨bx, 4, none⟩ = some (.slice da dn dc) := fun y => y.h.cells.2.2.2.2
                        haveI ne : Nonempty (WIn (OpB5 bx 6 ca fn cc' (.slice da dn dc))) := ⟨⟨W2.drew, S0⟩⟩
                        refine wp_normal ?_
                        refine wp_region_plan 6 (OpB5 bx 6 ca fn cc' (.slice da dn dc)) rfl ?_
                        refine wpN_seg [0, 1, 2, 3, 4, 5] (by kernel_rfl) (by kernel_rfl) (by kernel_rfl) (by kernel_rfl) (by decide) (fun _ _ _ _ _ h => h) S0 ?_
                        simp only [pick, List.map_cons, List.map_nil, List.getElem?_cons_succ, List.getElem?_cons_zero, Option.getD_some]
                        repeat (go_big_quiet_step (fail))
                        refine wpQuiet_nil ?_
                        clear s1 s2 s3 s4 ne S0
                        generalize W2.drew = W5 at *
                        refine wpN_one 6 _ (by kernel_rfl) rfl ?_
                        refine NextAt.free (by kernel_rfl) ?_
                        intro K1 hK1
                        go_simp
                        refine hK1 _ _ ?_
                        clear hK1 K1 hrun
                        refine wpN_done (by kernel_rfl) ?_
                        go_wp2_with fail
                        refine Met.intro (hJ _ _ (by kernel_rfl) ⟨rfl, rfl, rfl, rfl, rfl, rfl, FIN.out⟩)
                    · have e6 : (ck == 6) = false := beq_eq_false_iff_ne.2 k6
                      by_cases k7 : ck = 7
                      · as_aux_lemma =>
                        subst k7
                        obtain ⟨n0, n1, n2, n3, n4⟩ := HX1.out.cells
                        have PO := Lib.hid (cutS_any S1.out.sp ca cb cc' HFA.out.1)
                        go_wp2_with fail
                        refine PO.out.mono ?_
                        intro e W2 hp
                        rcases hp.out S1.out.sp with ⟨E, hE, rfl, hkp⟩ | ⟨rfl, ys, hys2, hf0, hft, htl, hcan, hm⟩
                        · clear hp PO n0 n1 n2 n3 n4
                          have hE1 : (E == 0) = false := by simp; exact hE
                          have FIN := Lib.hid (S1.out.kept hkp)
                          clear hkp hE
                          go_wp2_with fail
                          refine Met.intro (hJ _ _ (by kernel_rfl) ⟨rfl, rfl, rfl, rfl, rfl, rfl, FIN.out⟩)
                        · obtain ⟨P', Z', g, _, _⟩ := id hm
                          have X2 := Lib.hid (HX1.out.touch g.nx.2 HXT.out.1)
                          obtain ⟨rw2, rb2, bw2⟩ := S1.out.rowW g HRO.out HXS.out.1
                          have RW2 := Lib.hid rw2
                          have BW2 := Lib.hid bw2
                          have RB2 := Lib.hid rb2
                          obtain ⟨m0, m1, m2, m3, m4⟩ := X2.out.cells
                          clear rw2 rb2 bw2
                          obtain ⟨o9, h9, h99, h4⟩ := S1.out.look hys2
                          have exs : xs = ys := HXS.out.1.symm.trans h4
                          obtain ⟨sn', hsn'⟩ : ∃ m, ca.toNat = m := ⟨_, rfl⟩
                          rw [hsn'] at hcan hm
                          rw [hcan] at h9
                          rw [← exs] at htl hm h9
                          have hsh := (S1.out.sp.short hys2).1
                          rw [← exs] at hsh
                          rw [HXS.out.2] at htl hsh
                          obtain ⟨fn, rfl⟩ : ∃ fn : Nat, cb = fn := ⟨cb.toNat, by omega⟩
                          obtain ⟨tn, rfl⟩ : ∃ tn : Nat, cc' = tn := ⟨cc'.toNat, by omega⟩
                          simp only [Int.toNat_natCast] at hm
                          have hft' : fn ≤ tn := by omega
                          have htl' : tn ≤ xn := by omega
                          obtain ⟨hc1, hc2⟩ := row_caps' RW2.out
                          have HM2 := Lib.hid hm
                          have HH9 := Lib.hid h9
                          have HCA := Lib.hid hcan
                          have DR : Below W2.heap.size W2 W2.drew := (Below.refl _ W2).drew
                          have RS2 := (reads_row RW2.out (by rw [HXS.out.2]; omega)).below DR rfl
                          have CL := Lib.hid (concat_two (RS2.take fn (by rw [HXS.out.2]; omega)) (reads_rest RS2 htl' hc1 (rc - tn)) (by rw [List.length_append, List.length_take, List.length_drop, HXS.out.2]; omega))
                          have HBY : Hid (bytes (xs.take fn ++ xs.drop tn)) := Lib.hid (fun z hz => by
                            rcases List.mem_append.1 hz with hz | hz
                            · exact RB2.out z (List.mem_of_mem_take hz)
                            · exact RB2.out z (List.mem_of_mem_drop hz))
                          have HDR := Lib.hid DR
                          obtain ⟨U, hU⟩ : ∃ U, (if rc = tn then ra else Option.map (fun x => x.add tn) ra) = U := ⟨_, rfl⟩
                          rw [hU] at CL
                          have g0 : ¬ (fn : Int) < 0 := by omega
                          have g1 : ¬ (xn : Int) < (tn : Int) := by omega
                          clear hys2 h4 h9 h99 exs hm g hp PO n0 n1 n2 n3 n4 RS2 hcan hsn' DR hf0 hft htl
                          go_upto_region 49 with fail
                          clear m0 m1 m2 m3 m4
                          have S0 : OpB5 bx 7 ca fn tn (.slice da dn dc) W2.drew := X2.out
                          have s1 : ∀ y : WIn (OpB5 bx 7 ca fn tn (.slice da dn dc)), y.w.cell? ⟨bx, 1, none⟩ = some (.int .i64 ca) := fun y => y.h.cells.2.1
                          have s2 : ∀ y : WIn (OpB5 bx 7 ca fn tn (.slice da dn dc)), y.w.cell? ⟨bx, 2, none⟩ = some (.int .i64 fn) := fun y => y.h.cells.2.2.1
                          have s3 : ∀ y : WIn (OpB5 bx 7 ca fn tn (.slice da dn dc)), y.w.cell? ⟨bx, 3, none⟩ = some (.int .i64 tn) := fun y => y.h.cells.2.2.2.1
                          have s4 : ∀ y : WIn (OpB5 bx 7 ca fn tn (.slice da dn dc)), y.w.cell? ⟨bx, 4, none⟩ = some (.slice da dn dc) := fun y => y.h.cells.2.2.2.2
                          haveI ne : Nonempty (WIn (OpB5 bx 7 ca fn tn (.slice da dn dc))) := ⟨⟨W2.drew, S0⟩⟩
                          refine wp_normal ?_
                          refine wp_region_plan 13 (OpB5 bx 7 ca fn tn (.slice da dn dc)) rfl ?_
                          refine wpN_seg [0, 1, 2, 3, 4, 5, 6, 7, 8, 9, 10] (by kernel_rfl) (by kernel_rfl) (by kernel_rfl) (by kernel_rfl) (by decide) (fun _ _ _ _ _ h => h) S0 ?_
                          simp only [pick, List.map_cons, List.map_nil, List.getElem?_cons_succ, List.getElem?_cons_zero, Option.getD_some]
                          repeat (go_big_quiet_step (fail))
                          refine wpQuiet_nil ?_
                          clear s1 s2 s3 s4 ne S0
                          have XD := X2.out.below HDR.out
                          generalize W2.drew = W5 at *
                          refine wpN_one 11 _ (by kernel_rfl) rfl ?_
                          refine NextAt.held ?_
                          intro K1 hK1
                          go_simp
                          refine hK1 _ _ (XD.below ((Below.refl _ W5).alloc (Nat.le_refl _) _)) ?_
                          clear hK1 K1
                          refine wpN_one 12 _ (by kernel_rfl) rfl ?_
                          refine NextAt.held ?_
                          intro K1 hK1
                          go_simp
                          refine CL.out.mono ?_
                          rintro e W6 ⟨o3, rfl, hr3, hb3⟩
                          have X6 := XD.below hb3
                          obtain ⟨W4, hrun, hE4⟩ := S1.out.turned HH9.out HM2.out (HDR.out.trans (hb3.mono HDR.out.size)) (row_low hr3 HDR.out.size) HBY.out (by omega)
                          rw [← HCA.out] at hrun
                          have FIN := Lib.hid hE4
                          clear hr3 hb3 hE4 CL
                          go_simp
                          refine hK1 _ _ X6 ?_
                          clear hK1 K1
                          refine wpN_one 13 _ (by kernel_rfl) rfl ?_
                          refine NextAt.free (by kernel_rfl) ?_
                          intro K1 hK1
                          refine step_update_here rfl _ _ _ _ rfl _ _ _ (by go_simp) (by go_simp) (by go_simp) hrun ?_
                          go_simp
                          refine hK1 _ _ ?_
                          clear hK1 K1 hrun
                          refine wpN_done (by kernel_rfl) ?_
                          go_wp2_with fail
                          refine Met.intro (hJ _ _ (by kernel_rfl) ⟨rfl, rfl, rfl, rfl, rfl, rfl, FIN.out⟩)
                      · have e7 : (ck == 7) = false := beq_eq_false_iff_ne.2 k7
                        by_cases k8 : ck = 8
                        · as_aux_lemma =>
                          subst k8
                          obtain ⟨n0, n1, n2, n3, n4⟩ := HX1.out.cells
                          have PO := Lib.hid (look_any S1.out.sp ca cb cc' HFA.out.1 (by have := S1.out.lb; omega))
                          go_wp2_with fail
                          refine PO.out.mono ?_
                          intro e W2 hp
                          rcases hp.out S1.out.sp with ⟨E, rfl, hkp⟩ | ⟨ys, g8, off, n8, rfl, hys2, hf0, P', Z', g, hks, hcn, hlk⟩
                          · have FIN := Lib.hid (S1.out.kept hkp)
                            clear hp hkp PO n0 n1 n2 n3 n4
                            by_cases hE : E = 0
                            · subst hE
                              go_wp2_with fail
                              refine Met.intro (hJ _ _ (by kernel_rfl) ⟨rfl, rfl, rfl, rfl, rfl, rfl, FIN.out⟩)
                            · have hE1 : (E == 0) = false := by simp; exact hE
                              clear hE
                              go_wp2_with fail
                              refine Met.intro (hJ _ _ (by kernel_rfl) ⟨rfl, rfl, rfl, rfl, rfl, rfl, FIN.out⟩)
                          · 
                            have X2 := Lib.hid (HX1.out.touch g.nx.2 HXT.out.1)
                            obtain ⟨rw2, rb2, bw2⟩ := S1.out.rowW g HRO.out HXS.out.1
                            have RW2 := Lib.hid rw2
                            have BW2 := Lib.hid bw2
                            have RB2 := Lib.hid rb2
                            obtain ⟨m0, m1, m2, m3, m4⟩ := X2.out.cells
                            clear rw2 rb2 bw2
                            obtain ⟨o9, h9, h99, h4⟩ := S1.out.look hys2
                            have exs : xs = ys := HXS.out.1.symm.trans h4
                            have hcan := (S1.out.sp.ok.str (q := _) (by
                              unfold PoolSt.con at hys2
                              exact (Option.map_eq_some_iff.1 hys2).choose_spec.1)).2.2.2.2
                            obtain ⟨sn', hsn'⟩ : ∃ m, ca.toNat = m := ⟨_, rfl⟩
                            rw [hsn'] at hcan
                            rw [hcan] at h9
                            rw [← exs] at h9 hlk
                            have hsh := (S1.out.sp.short hys2).1
                            rw [← exs, HXS.out.2] at hsh
                            obtain ⟨fn, rfl⟩ : ∃ fn : Nat, cb = fn := ⟨cb.toNat, by omega⟩
                            simp only [Int.toNat_natCast] at hlk
                            have hfit := hlk.fit
                            rw [HXS.out.2] at hfit
                            have hpos := hlk.pos
                            have hfew := hlk.few
                            obtain ⟨hc1, hc2⟩ := row_caps' RW2.out
                            obtain ⟨T, hTn⟩ : ∃ T, fn + n8 = T := ⟨_, rfl⟩
                            have hT : (fn : Int) + (n8 : Int) = (T : Int) := by omega
                            obtain ⟨U, hU⟩ : ∃ U, (if rc = fn then ra else Option.map (fun x => x.add fn) ra) = U := ⟨_, rfl⟩
                            have hrd := hlk.reads
                            rw [hTn] at hrd
                            have hsl := reads_cut (reads_row RW2.out (by rw [HXS.out.2]; omega)) hc1 (show fn ≤ T by omega) (show T ≤ xn by omega) (rc - fn)
                            rw [hU] at hsl
                            have hlen8 : ((xs.take T).drop fn).length = n8 := by rw [List.length_drop, List.length_take, HXS.out.2]; omega
                            have EQ := Lib.hid (equal_oct hrd hlen8 hsl (by rw [hlen8]; omega))
                            have hzx : xs[fn]? = some (xs.getD fn 0) := by rw [List.getD_eq_getElem?_getD, List.getElem?_eq_getElem (by rw [HXS.out.2]; omega)]; rfl
                            have rwN := RW2.out
                            rw [HXS.out.2] at rwN
                            obtain ⟨g9, hra, hcr, hfr⟩ := wrow_cell rwN (xs := cellsB xs) (j := fn) (u := .int .u8 (xs.getD fn 0)) (by unfold cellsB; rw [List.getElem?_map, hzx]; rfl)
                            subst hra
                            obtain rfl : U = some ⟨g9, fn, none⟩ := by
                              rw [← hU, if_neg (by omega)]
                              exact congrArg some (addr_zero g9 fn)
                            clear hU
                            obtain ⟨z, hz⟩ : ∃ z, xs.getD fn 0 = z := ⟨_, rfl⟩
                            have hzb : 0 ≤ z ∧ z ≤ 255 := RB2.out z (by rw [← hz]; exact List.mem_of_getElem? hzx)
                            have hlc : W2.cell? ⟨g8, off, none⟩ = some (.int .u8 z) := by
                              obtain ⟨a', c', he, _, hcc⟩ := hrd
                              simp only [Value.slice.injEq] at he
                              obtain ⟨rfl, _, _⟩ := he
                              obtain ⟨b2, o2, h1, h2⟩ := hcc (by intro e; rw [e] at hlen8; simp at hlen8; omega)
                              simp only [Option.some.injEq, Addr.mk.injEq, and_true] at h1
                              obtain ⟨rfl, rfl⟩ := h1
                              have h3 := h2 0 (by omega)
                              rw [Nat.add_zero] at h3
                              rw [h3, ← hz, List.getD_eq_getElem?_getD, List.getD_eq_getElem?_getD, List.getElem?_drop, List.getElem?_take_of_lt (by omega), Nat.add_zero]
                            have hlf := hlk.free
                            obtain ⟨cz, hcz⟩ : ∃ cz, (z + 1) % 256 = cz := ⟨_, rfl⟩
                            have hczb : 0 ≤ cz ∧ cz ≤ 255 := by omega
                            obtain ⟨ht8, P2, sp8, lb8, ls8, ks8, cn8⟩ := hlk.poke W2 (Below.refl _ _) cz hczb
                            have hgY : g8 ≠ g9 := fun e => (S1.out.went g).2.2.2.1 g8 hlk.zg (by
                              have h3 := ((S1.out.went g).2.1.row ca).2.2 g9
                              rw [HRO.out] at h3
                              rw [e]
                              exact h3 rfl)
                            have W3c : (W2.setCell ⟨g8, off, none⟩ (.int .u8 cz)).cell? ⟨g9, fn, none⟩ = some (.int .u8 z) := by rw [← hz, ← hcr]; exact cell_other _ _ _ _ _ hgY.symm
                            have W3f : (W2.setCell ⟨g8, off, none⟩ (.int .u8 cz)).frozen? ⟨g9, fn, none⟩ = false := by rw [← hfr]; exact frozen_other _ _ _ _ _ hgY.symm
                            have RW3 : (W2.setCell ⟨g8, off, none⟩ (.int .u8 cz)).ownsRow 0 5 1 (rowOf (rowAt R ca)) xs.length (cellsB xs) := by
                              rw [HRO.out]
                              exact ownsRow_same RW2.out (fun k hk => Below.heap_setCell _ _ _ _ (fun e => hgY (by
                                simp only [Value.ownBlock, Option.some.injEq] at hk
                                rw [hk, e])))
                            have RW4 := row_poke HRO.out RW3 (by rw [HXS.out.2]; omega : fn < xs.length) cz
                            have g4 : Went pp bp P Z W1 P2 Z' (W2.setCell ⟨g8, off, none⟩ (.int .u8 cz)) := ⟨sp8, g.nx.trans ⟨fun k hk => Or.inl hk, ht8⟩, by rw [lb8]; exact g.lb, by rw [ls8]; exact g.ls⟩
                            have FIN4 := S1.out.wrote (xs := splice xs fn [cz]) (by rw [h9, h99.symm]) g4 (ks8.trans hks) (fun x => by rw [cn8 x, hcan, hcn x]) RW4 (bytes_spliceF RB2.out (fun q hq => by simp at hq; subst hq; exact hczb)) ((Touch.refl (fun k => (rowOf (rowAt R ca)).ownBlock = some k) _).setCell (p := ⟨g9, fn, none⟩) (Or.inl (by rw [HRO.out]; rfl)) (.int .u8 cz))
                            have RD4 : Reads ((W2.setCell ⟨g8, off, none⟩ (.int .u8 cz)).setCell ⟨g9, fn, none⟩ (.int .u8 cz)) .u8 (.slice (some ⟨g8, off, none⟩) n8 n8) (((xs.take T).drop fn).set 0 cz) := by
                              exact (reads_set0 hrd hpos cz).touch ((Touch.refl (fun k => k = g9) _).setCell (p := ⟨g9, fn, none⟩) (Or.inl rfl) _) (fun b o m c he => by cases he; exact hgY)
                            have hbx8 : bx ≠ g8 := fun e => by
                              have h1 := lt_of HX1.out
                              rcases g.nx.1 g8 hlk.zg with h2 | h2
                              · exact HXT.out.1 (by rw [e]; exact h2)
                              · omega
                            have HX3 : Hid (OpB5 bx 8 ca fn cc' (.slice da dn dc) (W2.setCell ⟨g8, off, none⟩ (.int .u8 cz))) := Lib.hid ((Below.heap_setCell _ _ _ _ hbx8).trans X2.out)
                            have HRD4 := Lib.hid RD4
                            have HFIN4 := Lib.hid FIN4
                            have g0 : ¬ (fn : Int) < 0 := by omega
                            have g1 : ¬ (xn : Int) < (T : Int) := by omega
                            have gp : (0 : Int) < (n8 : Int) := by omega
                            clear rwN hys2 h4 h9 h99 exs g hp PO n0 n1 n2 n3 n4 hcan hsn' hcn hks hf0 hlk hrd hsl hzx hcr hfr ht8 sp8 lb8 ls8 ks8 cn8 RW3 RW4 g4 FIN4 RD4 hfit
                            go_wp2_with fail
                            refine EQ.out.mono ?_
                            rintro e w' ⟨rfl, hw'⟩
                            obtain rfl := hw'.symm
                            clear hw' EQ
                            go_upto_region 56 with fail
                            clear m0 m1 m2 m3 m4 hlc hlf
                            have X3 := HX3.out.cells.2.2.1
                            have hgY' : g9 ≠ g8 := hgY.symm
                            generalize W2.setCell ⟨g8, off, none⟩ (.int .u8 cz) = W3 at *
                            go_upto_region 57 with fail
                            clear X3 W3c W3f
                            generalize W3.setCell ⟨g9, fn, none⟩ (.int .u8 cz) = W4 at *
                            obtain ⟨gb, capb, W5, hrun, hge, hc0, hf0, hb5⟩ := grow_full 22 HRD4.out hpos hfew 122
                            obtain ⟨P9, Z9, Y9, R9, D9, hI9⟩ := HFIN4.out
                            obtain ⟨z5, hz5⟩ : ∃ q, (((xs.take T).drop fn).set 0 cz).getD 0 0 = q := ⟨_, rfl⟩
                            rw [hz5] at hc0
                            have FIN : Hid (SvE w pp bp mp (k + 1) (W5.setCell ⟨gb, 0, none⟩ (.int .u8 ((z5 + 1) % 256)))) := Lib.hid ⟨P9, Z9, Y9, R9, D9, hI9.below (hb5.setCell (p := ⟨gb, 0, none⟩) hge _)⟩
                            have HRUN := Lib.hid hrun
                            clear hrun hge hb5 hI9 hz5
                            go_wp2_with (at_builtin; go_must (refine Lib.wpList_append_run _ rfl (.tmp 303) (.tmp 304) 22 22 rfl _ _ (by rfl) (by rfl) _ _ HRUN.out ?_))
                            clear HRUN
                            go_wp2_with fail
                            refine Met.intro (hJ _ _ (by kernel_rfl) ⟨rfl, rfl, rfl, rfl, rfl, rfl, FIN.out⟩)
                        · as_aux_lemma =>
                          have e8 : (ck == 8) = false := beq_eq_false_iff_ne.2 k8
                          obtain ⟨n0, n1, n2, n3, n4⟩ := HX1.out.cells
                          have PO := Lib.hid (pack_any S1.out.sp ca HFA.out.1 ⟨by have := S1.out.lb; omega, by have := S1.out.ls; omega⟩)
                          go_wp2_with fail
                          refine PO.out.mono ?_
                          intro e W2 hp
                          obtain ⟨⟨v, rfl⟩, hkp⟩ := hp.out S1.out.sp.ok
                          have FIN := Lib.hid (S1.out.kept hkp)
                          clear hp hkp PO n0 n1 n2 n3 n4
                          go_wp2_with fail
                          refine Met.intro (hJ _ _ (by kernel_rfl) ⟨rfl, rfl, rfl, rfl, rfl, rfl, FIN.out⟩)
      · clear S1 HX1 HXT HRO HXS HRW HRD HDN HDC HBZ HFA
        clear f P Z Y R D
        intro f wx ⟨f5, f6, f8, f48, f49, f50, P, Z, Y, R, D, hI⟩
        rw [slots362]
        rw [f5, f6, f8, f48, f49, f50]
        clear f5 f6 f8 f48 f49 f50
        have hlenS := hI.len
        obtain ⟨rn, hrn⟩ : ∃ rn, R.length = rn := ⟨_, rfl⟩
        have SS := Lib.hid (strings_any hI.sp)
        have HPL : Hid (P.st.length = rn) := Lib.hid (by omega)
        have S2 := Lib.hid hI
        have HRN := Lib.hid hrn
        clear hlenS hrn hI
        go_wp2_with fail
        refine SS.out.mono ?_
        rintro e w5 ⟨hb5, sa, scap, rfl⟩
        rw [HPL.out]
        have S5 := Lib.hid (S2.out.below hb5)
        have LN := S5.out.pl.m.len Try.underlying45 3
        rw [S5.out.pl.z, HRN.out] at LN
        have HE := Lib.hid S5.out.sp.held
        have RO := Lib.hid (roomP_any S5.out.sp)
        obtain ⟨rm, hrm⟩ : ∃ rm, P.size * P.bl.length = rm := ⟨_, rfl⟩
        rw [hrm] at HE RO
        clear hb5 SS hrm
        go_wp2_with fail
        refine HE.out.mono ?_
        rintro e w' ⟨rfl, hw'⟩
        obtain rfl := hw'.symm
        clear hw' HE
        go_wp2_with fail
        refine RO.out.mono ?_
        rintro e w6 ⟨rfl, q6, hq6⟩
        have S6 := Lib.hid (S5.out.below (show Below w5.heap.size w5 w6 by rw [hq6]; exact bdrewN (Below.refl _ w5) q6))
        have hown := S6.out.pl.m
        rw [HRN.out] at hown
        clear hq6 LN RO S5 S2
        go_wp2_with (first
          | (at_range; refine wpList_range_own _ rfl _ 45 rfl 3 22 intKey Try.underlying45 rowElem mp rn D rfl hown ?_; intro w0 hrg0 hg0 hs0)
          | fail)
        have hb0 : Below w6.heap.size w6 w0 := (Below.refl _ w6).grown hg0 (Nat.le_refl _) (fun k e => by cases e)
        have HB0 := Lib.hid hb0
        have HRG0 := Lib.hid hrg0
        generalize hit : w6.heap.size = it at *
        have HIT := Lib.hid hit
        clear hit hg0 hs0 hb0 hrg0 hown
        refine wp_loop_framed 362 (fun g f wr => f 5 = .pointer (some ⟨bp, 0, none⟩) ∧ f 6 = .pointer (some ⟨pp, 0, none⟩) ∧ f 8 = .map (some mp) ∧ f 48 = .slice (some ⟨b, o, none⟩) M cc ∧ f 49 = .int .i64 (M : Int) ∧ f 50 = .int .i64 (k : Int) ∧ f 325 = .pointer (some ⟨it, 0, none⟩) ∧ Below it w6 wr ∧ ∃ left, wr.ranges Try.prog 3 rowElem mp it rn D left g) _ [] (by kernel_rfl) (Maps.size D) ⟨rfl, rfl, rfl, rfl, rfl, rfl, rfl, HB0.out, _, HRG0.out⟩ ?_
        clear f HB0 HRG0
        intro g2 f wr ⟨f5, f6, f8, f48, f49, f50, f325, hb, left, hrg⟩ J2 K2 hJ2 hK2
        rw [slots362]
        rw [f5, f6, f8, f48, f49, f50, f325]
        clear f5 f6 f8 f48 f49 f50 f325
        have HB := Lib.hid hb
        go_wp2_with (first
          | (at_next; refine wpList_next_ranges _ rfl _ rfl 3 intKey rowElem (fun x : Int => .int .i64 x) (fun c : Option (Nat × Nat × Nat) => rowOf c) (fun key kl hkey => by obtain ⟨x, rfl, _⟩ := Maps.keyOf_int_inv Try.underlying3 hkey; exact ⟨x, rfl⟩) (fun v y hv => rowElem_shape hv) mp it rn D left g2 rfl hrg ?_ ?_)
          | fail)
        · intro hc0 hl0
          have FIN : Hid (SvE w pp bp mp (k + 1) wr) := Lib.hid ⟨P, Z, Y, R, D, S6.out.below (by rw [HIT.out]; exact HB.out)⟩
          clear hrg hb hc0 hl0 hJ2 hK2
          go_wp2_with fail
          refine Handed.intro (M - (k + 1)) (by omega) (hJ _ _ _ (by kernel_rfl) ⟨k + 1, by omega, rfl, rfl, rfl, rfl, rfl, rfl, by first | rfl | simp, FIN.out⟩)
        · intro x c kl y ps w2 cnt2 hkey hlk hv hat hrg2 hlt2 hg2 hs2 hen
          obtain ⟨x', ex, rfl, hwx⟩ := Maps.keyOf_int_inv Try.underlying3 hkey
          cases ex
          obtain ⟨sn9, ⟨so, os⟩, rfl, hmem, hy⟩ := look_hasR S6.out.pl.l hat
          subst hy
          have hcv := rowElem_inv hv
          rw [hcv] at hen ⊢
          have hcon : P.con (sn9 : Int) = some os := by
            rw [← S6.out.con, hmem]
            rfl
          have B2 := Lib.hid (hb.grown hg2 (by rw [← HIT.out]; exact hb.size) (fun k e => by cases e; exact Nat.le_refl _))
          have S2 := Lib.hid (S6.out.below (by rw [HIT.out]; exact B2.out))
          obtain ⟨rw2, _⟩ := S2.out.pl.st _ (lookN_val hmem)
          simp only at rw2
          have hsho := (S6.out.sp.short hcon).1
          obtain ⟨ra9, rc9, hro9⟩ : ∃ ra rc, rowOf so = .slice ra os.length rc := by
            rcases rw2.2 with ⟨h1, h2⟩ | ⟨g, cap, cur, h1, _⟩
            · exact ⟨_, _, by rw [h1, h2]⟩
            · exact ⟨_, _, h1⟩
          obtain ⟨on, hon⟩ : ∃ on, os.length = on := ⟨_, rfl⟩
          rw [hro9] at rw2 hen ⊢
          have RW2 := Lib.hid (reads_row rw2 (by omega))
          rw [hon] at hro9 hen RW2 ⊢
          have hkb : -9223372036854775808 ≤ (sn9 : Int) ∧ (sn9 : Int) ≤ 9223372036854775807 := range_i64 hwx
          have CP := Lib.hid (copyP_any S2.out.sp (sn9 : Int) 0 (on : Int) hkb)
          have HCON := Lib.hid hcon
          have HON := Lib.hid hon
          have HRG := Lib.hid hrg2
          have HLT := Lib.hid hlt2
          have HKB := Lib.hid hkb
          clear hkey hlk hv hat hrg2 hlt2 hg2 hs2 hcon rw2 hro9 hon hrg hb hmem hcv hwx hkb hsho
          go_wp2_with fail
          refine CP.out.mono ?_
          intro e w3 hp3
          obtain ⟨hb3, o3, rfl, hr3⟩ := hp3.out S2.out.sp.ok HCON.out (by rw [HON.out])
          obtain ⟨ra3, rc3, hro3⟩ : ∃ ra rc, rowOf o3 = .slice ra os.length rc := by
            rcases hr3.2 with ⟨h1, h2⟩ | ⟨g, cap, cur, h1, _⟩
            · exact ⟨_, _, by rw [h1, h2]⟩
            · exact ⟨_, _, h1⟩
          rw [hro3] at hr3 ⊢
          have hsho := (S6.out.sp.short HCON.out).1
          have rd3 := reads_row hr3 (by omega)
          rw [HON.out] at rd3
          rw [HON.out]
          have EQ := Lib.hid (equal_oct rd3 HON.out (RW2.out.below hb3 rfl) HON.out)
          have S3 := Lib.hid (S2.out.below hb3)
          have B3 := Lib.hid (B2.out.trans (hb3.mono (by rw [← HIT.out]; exact B2.out.size)))
          have RG3 := Lib.hid (HRG.out.of_walks (walks_below hb3))
          have LE := Lib.hid (len_any S3.out.sp (sn9 : Int) HKB.out)
          clear hp3 hb3 hro3 hr3 hsho rd3 CP HRG
          go_wp2_with fail
          refine EQ.out.mono ?_
          rintro e w' ⟨rfl, hw'⟩
          obtain rfl := hw'.symm
          clear hw' EQ
          go_wp2_with fail
          refine LE.out.mono ?_
          intro e w4 hp4
          obtain ⟨hb4, rfl⟩ := hp4.out S3.out.sp.ok HCON.out
          rw [HON.out]
          have B4 := Lib.hid (B3.out.trans (hb4.mono (by rw [← HIT.out]; exact B3.out.size)))
          have RG4 := Lib.hid (RG3.out.of_walks (walks_below hb4))
          clear hp4 hb4 LE RG3
          go_wp2_with fail
          refine Handed.intro cnt2 HLT.out (hJ2 _ _ _ (by kernel_rfl) ⟨rfl, rfl, rfl, rfl, rfl, rfl, rfl, B4.out, _, RG4.out⟩)
    · obtain rfl : k = M := by omega
      have FIN := Lib.hid hI.bel
      clear hI hJ hK
      go_wp2_with fail
      go_ret
      exact ⟨rfl, FIN.out⟩

end Go.Proofs.Ytbndknbjjdoanaa
