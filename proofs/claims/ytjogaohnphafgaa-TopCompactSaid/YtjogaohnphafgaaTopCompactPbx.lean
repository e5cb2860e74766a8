/-
  The walk of TopCompact. No conditions.
-/
import Derived.Test.YtjogaohnphafgaaTopCompactPbw
import Derived.Test.YtjogaohnphafgaaTopCompactPad
import Derived.Lib.AppendZeros
import Derived.RangeFuncSeq
import Derived.Deep.LoopGhost
import Derived.Deep.Cut
import Derived.Deep.CutBlock
import Derived.Deep.CutRange
import Derived.Deep.DeepCutAuto
namespace Go.Proofs.Ytjogaohnphafgaa
open Go.RowKit Go.Maps
set_option linter.unusedVariables false

set_option maxRecDepth 100000 in
theorem slots336 (f : Nat → Value) : slotsOf 336 f = f 0 :: f 1 :: f 2 :: f 3 :: f 4 :: f 5 :: f 6 :: f 7 :: f 8 :: f 9 :: f 10 :: f 11 :: f 12 :: f 13 :: f 14 :: f 15 :: f 16 :: f 17 :: f 18 :: f 19 :: f 20 :: f 21 :: f 22 :: f 23 :: f 24 :: f 25 :: f 26 :: f 27 :: f 28 :: f 29 :: f 30 :: f 31 :: f 32 :: f 33 :: f 34 :: f 35 :: f 36 :: f 37 :: f 38 :: f 39 :: f 40 :: f 41 :: f 42 :: f 43 :: f 44 :: f 45 :: f 46 :: f 47 :: f 48 :: f 49 :: f 50 :: f 51 :: f 52 :: f 53 :: f 54 :: f 55 :: f 56 :: f 57 :: f 58 :: f 59 :: f 60 :: f 61 :: f 62 :: f 63 :: f 64 :: f 65 :: f 66 :: f 67 :: f 68 :: f 69 :: f 70 :: f 71 :: f 72 :: f 73 :: f 74 :: f 75 :: f 76 :: f 77 :: f 78 :: f 79 :: f 80 :: f 81 :: f 82 :: f 83 :: f 84 :: f 85 :: f 86 :: f 87 :: f 88 :: f 89 :: f 90 :: f 91 :: f 92 :: f 93 :: f 94 :: f 95 :: f 96 :: f 97 :: f 98 :: f 99 :: f 100 :: f 101 :: f 102 :: f 103 :: f 104 :: f 105 :: f 106 :: f 107 :: f 108 :: f 109 :: f 110 :: f 111 :: f 112 :: f 113 :: f 114 :: f 115 :: f 116 :: f 117 :: f 118 :: f 119 :: f 120 :: f 121 :: f 122 :: f 123 :: f 124 :: f 125 :: f 126 :: f 127 :: f 128 :: f 129 :: f 130 :: f 131 :: f 132 :: f 133 :: f 134 :: f 135 :: f 136 :: f 137 :: f 138 :: f 139 :: f 140 :: f 141 :: f 142 :: f 143 :: f 144 :: f 145 :: f 146 :: f 147 :: f 148 :: f 149 :: f 150 :: f 151 :: f 152 :: f 153 :: f 154 :: f 155 :: f 156 :: f 157 :: f 158 :: f 159 :: f 160 :: f 161 :: f 162 :: f 163 :: f 164 :: f 165 :: f 166 :: f 167 :: f 168 :: f 169 :: f 170 :: f 171 :: f 172 :: f 173 :: f 174 :: f 175 :: f 176 :: f 177 :: f 178 :: f 179 :: f 180 :: f 181 :: f 182 :: f 183 :: f 184 :: f 185 :: f 186 :: f 187 :: f 188 :: f 189 :: f 190 :: f 191 :: f 192 :: f 193 :: f 194 :: f 195 :: f 196 :: f 197 :: f 198 :: f 199 :: f 200 :: f 201 :: f 202 :: f 203 :: f 204 :: f 205 :: f 206 :: f 207 :: f 208 :: f 209 :: f 210 :: f 211 :: f 212 :: f 213 :: f 214 :: f 215 :: f 216 :: f 217 :: f 218 :: f 219 :: f 220 :: f 221 :: f 222 :: f 223 :: f 224 :: f 225 :: f 226 :: f 227 :: f 228 :: f 229 :: f 230 :: f 231 :: f 232 :: f 233 :: f 234 :: f 235 :: f 236 :: f 237 :: f 238 :: f 239 :: f 240 :: f 241 :: f 242 :: f 243 :: f 244 :: f 245 :: f 246 :: f 247 :: f 248 :: f 249 :: f 250 :: f 251 :: f 252 :: f 253 :: f 254 :: f 255 :: f 256 :: f 257 :: f 258 :: f 259 :: f 260 :: f 261 :: f 262 :: f 263 :: f 264 :: f 265 :: f 266 :: f 267 :: f 268 :: f 269 :: f 270 :: f 271 :: f 272 :: f 273 :: f 274 :: f 275 :: f 276 :: f 277 :: f 278 :: f 279 :: f 280 :: f 281 :: f 282 :: f 283 :: f 284 :: f 285 :: f 286 :: f 287 :: f 288 :: f 289 :: f 290 :: f 291 :: f 292 :: f 293 :: f 294 :: f 295 :: f 296 :: f 297 :: f 298 :: f 299 :: f 300 :: f 301 :: f 302 :: f 303 :: f 304 :: f 305 :: f 306 :: f 307 :: f 308 :: f 309 :: f 310 :: f 311 :: f 312 :: f 313 :: f 314 :: f 315 :: f 316 :: f 317 :: f 318 :: f 319 :: f 320 :: f 321 :: f 322 :: f 323 :: f 324 :: f 325 :: f 326 :: f 327 :: f 328 :: f 329 :: f 330 :: f 331 :: f 332 :: f 333 :: f 334 :: f 335 :: [] := rfl
/-- The box of an operation. -/
def OpBx (b : Nat) (k x y c : Int) (d : Value) (w : World) : Prop := w.heap[b]? = some (.cells #[.int .i64 k, .int .i64 x, .int .i64 y, .int .i64 c, d] 36 (0, 0))
theorem OpBx.below {b : Nat} {k x y c : Int} {d : Value} {w w' : World} (h : OpBx b k x y c d w) (hb : Below w.heap.size w w') : OpBx b k x y c d w' := (hb.block b (lt_of h)).trans h
theorem OpBx.touch {b : Nat} {k x y c : Int} {d : Value} {w w' : World} {Z : Nat → Prop} (h : OpBx b k x y c d w) (ht : Touch Z w w') (hz : ¬ Z b) : OpBx b k x y c d w' := (ht.block b (lt_of h) hz).trans h
theorem OpBx.cells {b : Nat} {k x y c : Int} {d : Value} {w : World} (h : OpBx b k x y c d w) : w.cell? ⟨b, 0, none⟩ = some (.int .i64 k) ∧ w.cell? ⟨b, 1, none⟩ = some (.int .i64 x) ∧ w.cell? ⟨b, 2, none⟩ = some (.int .i64 y) := by
  refine ⟨?_, ?_, ?_⟩ <;> (rw [cell_of h]; rfl)
theorem PlM.lookOk {w : World} {Y : Nat → Prop} {mp : Nat} {L : RowsL} {D : DataW Unit} (m : PlM w Y mp L D) (s : Int) (hs : -9223372036854775808 ≤ s ∧ s ≤ 9223372036854775807) :
    (Instr.lookup 32 (.map (some mp)) (.int .i64 s) true).run Try.prog w = .ok (.tuple #[rowOf (rowAt L s), .bool (lookN L s).isSome]) w := by
  have hz : (zeroValue 34).run Try.prog w = .ok (.slice none 0 0) w := by kernel_rfl
  have hkey := Maps.keyOf_int_mk (P := Try.prog) (k := 3) Try.underlying3 (a := s) (WalkArith.wf_i64 hs)
  obtain ⟨v, ps, hrun, hv⟩ := m.m.look_ok (Maps.int_keyed Try.underlying3) Try.underlying32 hz (zd := .nil) (zp := []) rfl hkey
  rw [hrun, m.l s .nil] at *
  unfold rowAt
  cases hl : lookN L s with
  | none =>
    rw [hl] at hv
    have hh : Maps.has D (.int .i64 s) = false := Maps.has_false_of_atKey (fun z => by rw [m.l, hl]; rfl)
    rw [hh, rowElem_inv (o := none) hv]
    rfl
  | some x =>
    rw [hl] at hv
    have hh : Maps.has D (.int .i64 s) = true := Maps.has_true_of_atKey (y := rowD x.1) (fun z => by rw [m.l, hl]; rfl)
    rw [hh, rowElem_inv (o := x.1) hv]
    rfl
theorem CmE.new {w0 w : World} {hp bp : Nat} {k s m : Int} {F G : Nat → Prop} (hb : Below w0.heap.size w0 w) (h : HB w hp bp (newH k s m) (.slice none 0 0) (.slice none 0 0) (.slice none 0 0) [] F G 10000000 bigStB) (hpol : polErr k s m = 0) (hz : ∀ k, F k ∨ G k → w0.heap.size ≤ k) :
    CmE w0 hp bp w.heap.size (w.heap.size + 1) 0 ((w.alloc (.map #[] 0)).alloc (.map #[] 0)) := by
  have h1 : Below w.heap.size w (w.alloc (.map #[] 0)) := (Below.refl _ w).alloc (Nat.le_refl _) _
  have hs : (w.alloc (.map #[] 0)).heap.size = w.heap.size + 1 := by simp
  have h2 : Below (w.alloc (.map #[] 0)).heap.size (w.alloc (.map #[] 0)) ((w.alloc (.map #[] 0)).alloc (.map #[] 0)) := (Below.refl _ _).alloc (Nat.le_refl _) _
  have h3 := h1.trans (h2.mono h1.size)
  have kp := KpM.new (w.alloc (.map #[] 0))
  rw [hs] at kp
  refine ⟨newH k s m, _, _, _, _, F, G, _, bigStB, [], _, _, ⟨hb.trans (h3.mono hb.size), h.below h3, (PlM.new (w := w)).below (by rw [hs]; exact h2.mono (by omega)), kp, ⟨hz, fun k hk => by rw [hk]; exact hb.size, by have := hb.size; omega⟩, fun k hk hy => ?_, ⟨fun e => ?_, fun e => ?_, fun e => ?_⟩⟩, ⟨hpol, rfl, List.Pairwise.nil, rfl, fun k hk => (by cases hk), ⟨Nat.le_refl _, Nat.le_refl _⟩, ⟨rfl, fun l hl => (by cases hl)⟩⟩⟩
  · subst hy
    rcases hk with e | e
    · have := h.fl _ e; omega
    · have := h.bk.gl _ e; omega
  · have := h.fl _ e; omega
  · have := h.bk.gl _ e; omega
  · have e' : w.heap.size + 1 = w.heap.size := e
    omega
theorem bytesIn_oct {w : World} {p : Option Addr} {n c : Nat} {zs : List Int} (h : Reads w .u8 (.slice p n c) zs) (hl : zs.length = n) : Lib.BytesIn w p n zs := by
  obtain ⟨a, cap, hv, _, hc⟩ := h
  simp only [Value.slice.injEq] at hv
  obtain ⟨rfl, _, _⟩ := hv
  intro hn
  obtain ⟨b, o, hp, hcell⟩ := hc (fun e => by rw [e] at hl; simp at hl; omega)
  exact ⟨b, o, hp, fun i hi => hcell i (by omega)⟩
theorem equal_oct {w : World} {p1 p2 : Option Addr} {n m c d : Nat} {zs : List Int} (h1 : Reads w .u8 (.slice p1 n c) zs) (hl : zs.length = n) (h2 : Reads w .u8 (.slice p2 m d) zs) (hm : zs.length = m) :
    Calls Try.prog 18 #[.slice p1 n c, .slice p2 m d] w (fun e w' => e = .returned (.bool true) ∧ w' = w) := by
  refine (Go.Proofs.Try.bytes_Equal_all p1 p2 n c m d zs zs w hl hm (bytesIn_oct h1 hl) (bytesIn_oct h2 hm)).mono ?_
  rintro e w' ⟨rfl, rfl⟩
  exact ⟨by simp, rfl⟩
theorem look_hasR {L : RowsL} {D : DataW Unit} (h : ∀ k z, D.atKey (.int .i64 k) z = rowZ ((lookN L k).map Prod.fst) z) {k : Int} {y : DataW Unit} (hat : ∀ z, D.atKey (.int .i64 k) z = y) : ∃ (n : Nat) (x : Option (Nat × Nat × Nat) × List Int), (n : Int) = k ∧ lookN L (n : Int) = some x ∧ y = rowD x.1 := by
  cases hl : lookN L k with
  | none =>
    have h1 := hat (.lit (.int .i64 0))
    have h2 := hat (.lit (.int .i64 1))
    rw [h, hl] at h1 h2
    rw [← h2] at h1
    simp [rowZ] at h1
  | some x =>
    obtain ⟨n, hn, _⟩ := lookN_mem hl
    have h1 := hat .nil
    rw [h, hl] at h1
    exact ⟨n, x, hn, by rw [hn]; exact hl, h1.symm⟩
theorem wpList_update_runP {P : Program} {ops : Array Oper} {rest : List Oper} {o : Oper} {a : Act} {w w' : World} {Q : Exit → Act → World → Prop} (hg : o.guard = none) (m x v : Operand) (t : TypeId) (hop : o.op = Op.mapUpdate t m x v) {mv xv vv : Value}
    (hm : a.eval m = mv) (hx : a.eval x = xv) (hv : a.eval v = vv) (hrun : (Instr.mapUpdate t mv xv vv).run P w = .ok () w') (hK : wpList P ops Q rest (a.put o.dst undef) w') : wpList P ops Q (o :: rest) a w := by
  refine wpList_plain hg fun K' hK' => ?_
  unfold Oper.wp
  simp [execOp, hop, hm, hx, hv, hrun, Result.andThen]
  exact hK' _ _ hK

theorem own_zeros {W : World} {n : Nat} (hn : n ≤ 100000) : (W.alloc (.cells ((zeros n).map (Value.int .u8)).toArray 5)).ownsRow W.heap.size 5 1 (rowOf (some (W.heap.size, n, n))) n (cellsB (zeros n)) := by
  refine ⟨by simp [cellsB, zeros], Or.inr ⟨W.heap.size, n, _, rfl, Nat.le_refl _, heap_alloc_new W _, Nat.le_refl _, by unfold maxLen; omega, by simp [zeros], ?_⟩⟩
  rw [List.toList_toArray, Nat.mul_one, List.take_of_length_le (by simp [zeros])]
  rfl
theorem zeros_bytes (n : Nat) : bytes (zeros n) := fun z hz => by
  unfold zeros at hz
  rw [List.mem_replicate] at hz
  omega
theorem byte_set {w : World} {g j : Nat} {cs : List Int} {u : Int} (h : byteRow w g cs) : byteRow (w.setCell ⟨g, j, none⟩ (.int .u8 u)) g (cs.set j u) := by
  unfold byteRow at h ⊢
  rw [block_setCell h j (.int .u8 u)]
  congr 2
  apply Array.ext'
  simp [List.map_set]
theorem bytes_set' {cs : List Int} {j : Nat} {u : Int} (h : bytes cs) (hu : 0 ≤ u ∧ u ≤ 255) : bytes (cs.set j u) := fun z hz => by
  rcases List.mem_or_eq_of_mem_set hz with h1 | h1
  · exact h z h1
  · rw [h1]; exact hu
section
variable {w0 w w' : World} {hp bp mp gp n : Nat} {S : HpSt} {vm vb vh : Value} {vhs : List Value} {F G Y : Nat → Prop} {b : BookSt} {R : RowsL} {D : DataW Unit} {K : Int → Bool}
theorem CmM.poke (h : CmM w0 hp bp mp gp n S vm vb vh vhs F G Y b R D K w) {g j : Nat} {u : Int} (hg : vm = .slice (some ⟨g, 0, none⟩) S.mem.length S.mem.length) (hj : j < S.mem.length) (hu : 0 ≤ u ∧ u ≤ 255) :
    CmM w0 hp bp mp gp n { S with mem := S.mem.set j u } vm vb vh vhs F G Y b R D K (w.setCell ⟨g, j, none⟩ (.int .u8 u)) := by
  obtain ⟨g', hg', hrow, hFg⟩ := h.hb.hm.bytes (by omega)
  rw [hg] at hg'
  simp only [Value.slice.injEq, Option.some.injEq, Addr.mk.injEq, and_true] at hg'
  obtain rfl := hg'
  have ht : Touch (fun k => k = g) w (w.setCell ⟨g, j, none⟩ (.int .u8 u)) := Touch.setCell (F := fun k => k = g) (p := ⟨g, j, none⟩) (Touch.refl _ w) (Or.inl rfl) _
  exact h.turn (h.hb.octs hg (byte_set hrow) (by rw [List.length_set]) (bytes_set' h.hb.hm.mb hu) ht) (fun k hk => Or.inl hk) (fun k hk => Or.inl hk) (ht.mono (fun k hk => Or.inl (hk ▸ hFg)))
theorem CmM.pokeR (h : CmM w0 hp bp mp gp n S vm vb vh vhs F G Y b R D K w) {key g n' c j : Nat} {o : Option (Nat × Nat × Nat)} {xs : List Int} {u : Int} (hl : lookN R (key : Int) = some (o, xs)) (ho : rowOf o = .slice (some ⟨g, 0, none⟩) n' c) (hu : 0 ≤ u ∧ u ≤ 255) :
    CmM w0 hp bp mp gp n S vm vb vh vhs F G Y b (putR R key o (xs.set j u)) D K (w.setCell ⟨g, j, none⟩ (.int .u8 u)) := by
  obtain ⟨r1, r2⟩ := h.pl.st _ (lookN_val hl)
  simp only at r1 r2
  have hgY : Y g := r2 g (by rw [ho]; rfl)
  have ht : Touch (fun k => k = g) w (w.setCell ⟨g, j, none⟩ (.int .u8 u)) := Touch.setCell (F := fun k => k = g) (p := ⟨g, j, none⟩) (Touch.refl _ w) (Or.inl rfl) _
  have hr : (w.setCell ⟨g, j, none⟩ (.int .u8 u)).ownsRow 0 5 1 (rowOf o) (xs.set j u).length (cellsB (xs.set j u)) := by
    have e : cellsB (xs.set j u) = (cellsB xs).set j (.int .u8 u) := by unfold cellsB; rw [List.map_set]
    rw [List.length_set, e]
    have h1 := r1
    have hn : n' = xs.length := by
      obtain ⟨_, _, h2⟩ := wrow_sh r1
      rw [ho] at h2
      simp only [Value.slice.injEq] at h2
      exact h2.2.1
    rw [ho, hn] at h1 ⊢
    exact wrow_set h1 j _
  refine ⟨h.bel.trans (ht.below h.bel.size (fun k hk => hk ▸ h.z.2.1 g hgY)), h.hb.touch ht (fun k hk e => h.ap g (Or.inl (hk ▸ e)) hgY) (fun k hk e => h.ap g (Or.inr (hk ▸ e)) hgY), h.pl.write hl hr (bytes_set' (h.pl.oct _ (lookN_val hl)) hu) (fun k hk hne => ht.block k hk (fun e => hne (by rw [ho, e]; rfl))) ht.size, h.kp.same (ht.block _ h.kp.lt (fun e => h.ag.2.2 (e ▸ hgY))), h.z, h.ap, h.ag⟩
end
theorem walks_below' {w w' : World} (h : Below w.heap.size w w') : KeepsWalks w w' := ⟨h.size, fun k o hk _ => (h.block k (Array.getElem?_eq_some_iff.1 hk).1).trans hk⟩

set_option maxHeartbeats 8000000 in
set_option maxRecDepth 100000 in
theorem topCompact (pk ps pm : Int) (v : Value) (L : List Cl) (w : World) (_ : -9223372036854775808 ≤ pk ∧ pk ≤ 9223372036854775807) (_ : -9223372036854775808 ≤ ps ∧ ps ≤ 9223372036854775807) (_ : -9223372036854775808 ≤ pm ∧ pm ≤ 9223372036854775807) (hops : ClsIn w v L ∧ (∀ e ∈ L, e.d.length ≤ 140737488351232) ∧ ∃ a c, v = .slice a L.length c ∧ L.length ≤ c ∧ c ≤ 9223372036854775807)
    (hcaps : ∀ b o n c, v = .slice (some ⟨b, o, none⟩) n c → ∀ k, k < n → ∀ dv, w.cell? ⟨b, o + k * 5 + 4, none⟩ = some dv → capsOk dv) :
    Calls Try.prog 3 #[.agg #[.int .i64 pk, .int .i64 ps, .int .i64 pm], v] w (LawPost w) := by
  obtain ⟨⟨a, cap, rfl, hll, hcell⟩, hfit, a', cap', hac, hlc, hcm⟩ := hops
  simp only [Value.slice.injEq] at hac
  obtain ⟨rfl, _, rfl⟩ := hac
  have HLC := Lib.hid (And.intro hlc hcm)
  have HC := Lib.hid hcell
  have HF := Lib.hid hfit
  have HK := Lib.hid hcaps
  have B0 := BoxAt.new w pk ps pm 23
  have bel0 : Below w.heap.size w (w.alloc (.cells #[.int .i64 pk, .int .i64 ps, .int .i64 pm] 23)) := by go_grown
  clear hcell hfit hlc hcm hcaps
  go_enter Try.func3, Try.ntmps3
  go_wp2_with fail
  refine (awakeRoomB_any _).mono ?_
  rintro e w1 ⟨rfl, hb1⟩
  have B1 := Lib.hid (bel0.trans (hb1.mono (by simp)))
  have BX1 := Lib.hid (B0.below hb1)
  clear hb1 B0 bel0
  go_wp2_with fail
  refine (bigBookB_any w1).mono ?_
  rintro e w2 ⟨bp, rfl, hbk2, hb2⟩
  have B2 := Lib.hid (B1.out.trans (hb2.mono B1.out.size))
  have HBK := Lib.hid hbk2
  have BX2 := Lib.hid (BX1.out.below hb2)
  clear hb2 hbk2
  obtain ⟨x0, x1, x2, x3⟩ := BX2.out
  go_wp2_with fail
  refine (newHB_any bp pk ps pm w2 _ HBK.out).mono ?_
  rintro e w3 ⟨hb3, ⟨er, her, rfl⟩ | ⟨hp, F, G, hpol, rfl, hcb, hF, hG⟩⟩
  · have B3 := Lib.hid (B2.out.trans (hb3.mono B2.out.size))
    have hE1 : (er != 0) = true := bne_iff_ne.2 her
    clear hb3 her
    go_wp2_with fail
    go_ret
    exact ⟨rfl, B3.out⟩
  have B3 := Lib.hid (B2.out.trans (hb3.mono B2.out.size))
  have START := Lib.hid (CmE.new B3.out hcb hpol (fun k hk => by
    have h1 := B1.out.size
    have h2 := B2.out.size
    rcases hk with hk | hk
    · exact Nat.le_trans h2 (hF k hk)
    · exact Nat.le_trans h1 (hG k hk)))
  have hmm := @run_makeMap Try.prog
  clear hb3 hcb hF hG hpol B3 B2 B1 HBK BX1 BX2 x0 x1 x2 x3
  obtain ⟨M, hM⟩ : ∃ M, min L.length 40 = M := ⟨_, rfl⟩
  have HM : Hid (M ≤ L.length ∧ M ≤ 40) := Lib.hid (by omega)
  have HMM := Lib.hid hM
  clear hM
  go_upto_region 11 with fail
  generalize (w3.alloc (.map #[] 0)).alloc (.map #[] 0) = w4 at *
  generalize w3.heap.size + 1 = gp at *
  generalize w3.heap.size = mp at *
  clear hmm
  refine wp_cut_framed 336 (fun f wx => ∃ cc, f 5 = .pointer (some ⟨bp, 0, none⟩) ∧ f 6 = .pointer (some ⟨hp, 0, none⟩) ∧ f 8 = .map (some mp) ∧ f 9 = .map (some gp) ∧ f 62 = .slice a M cc ∧ f 63 = .int .i64 (M : Int) ∧ f 64 = .int .i64 0 ∧ wx = w4) _ _ ?_ ?_
  · intro J K' hJ hK
    have hlc := HLC.out
    by_cases h40 : 40 < L.length
    · as_aux_lemma =>
      obtain rfl : M = 40 := by have := HMM.out; omega
      have hmin : min (L.length : Int) 40 = 40 := by omega
      go_wp2_with fail
      refine Met.intro (hJ _ _ (by kernel_rfl) ⟨_, rfl, rfl, rfl, rfl, by first | rfl | simp, rfl, rfl, rfl⟩)
    · as_aux_lemma =>
      obtain rfl : M = L.length := by have := HMM.out; omega
      have hmin : min (L.length : Int) 40 = (L.length : Int) := by omega
      go_wp2_with fail
      refine Met.intro (hJ _ _ (by kernel_rfl) ⟨_, rfl, rfl, rfl, rfl, by first | rfl | simp, rfl, rfl, rfl⟩)
  intro f wx ⟨cc, f5, f6, f8, f9, f62, f63, f64, hwx⟩
  subst hwx
  rw [slots336]
  rw [f5, f6, f8, f9, f62, f63, f64]
  clear f5 f6 f8 f9 f62 f63 f64
  go_wp2_with fail
  refine wp_loop_framed 336 (fun g f wr => ∃ k : Nat, k ≤ M ∧ g = M - k ∧ f 5 = .pointer (some ⟨bp, 0, none⟩) ∧ f 6 = .pointer (some ⟨hp, 0, none⟩) ∧ f 8 = .map (some mp) ∧ f 9 = .map (some gp) ∧ f 62 = .slice a M cc ∧ f 63 = .int .i64 (M : Int) ∧ f 64 = .int .i64 (k : Int) ∧ CmE w hp bp mp gp k wr) _ _ (by kernel_rfl) M ⟨0, Nat.zero_le _, rfl, rfl, rfl, rfl, rfl, rfl, rfl, rfl, START.out⟩ ?_
  clear f START
  intro g f wr ⟨k, hk, hg, f5, f6, f8, f9, f62, f63, f64, S, vm, vb, vh, vhs, F, G, Y, b, R, D, K0, hI, hP⟩ J K hJ hK
  rw [slots336]
  rw [f5, f6, f8, f9, f62, f63, f64]
  clear f5 f6 f8 f9 f62 f63 f64
  have hm40 := HM.out.2
  by_cases hlt : k < M
  · as_aux_lemma =>
    obtain ⟨lb, lo, ha, c5⟩ := HC.out k (by have := HM.out; omega)
    subst ha
    have hln := HF.out (L.getD k Cl.zero) (by
      have hk' : k < L.length := by have := HM.out; omega
      rw [List.getD_eq_getElem?_getD, List.getElem?_eq_getElem hk']
      exact List.getElem_mem hk')
    obtain ⟨g0, g1, g2, g3, dv, g4, hrd, hz, hfk, hfa, hfb, hfc⟩ := c5
    have hcp := HK.out lb lo _ _ rfl k (by have := HM.out; omega) dv g4
    have hb := hI.bel
    have g0 := old_cell hb g0
    have g1 := old_cell hb g1
    have g2 := old_cell hb g2
    have g3 := old_cell hb g3
    have g4 := old_cell hb g4
    obtain ⟨da, dn, dc, rfl, hd1, hd2⟩ := hcp
    generalize L.getD k Cl.zero = cl at *
    obtain ⟨ck, ca, cb, cc', cd⟩ := cl
    simp only at g0 g1 g2 g3 g4 hrd hz hln hfa hfb hfc hfk
    have HFA := Lib.hid (show (-9223372036854775808 ≤ ca ∧ ca ≤ 9223372036854775807) ∧ (-9223372036854775808 ≤ cb ∧ cb ≤ 9223372036854775807) from ⟨hfa, hfb⟩)
    have BX := (Below.refl wr.heap.size wr).alloc (Nat.le_refl _) (.cells #[.int .i64 ck, .int .i64 ca, .int .i64 cb, .int .i64 cc', .slice da dn dc] 36)
    have HX1 : Hid (OpBx wr.heap.size ck ca cb cc' (.slice da dn dc) (wr.alloc (.cells #[.int .i64 ck, .int .i64 ca, .int .i64 cb, .int .i64 cc', .slice da dn dc] 36))) := Lib.hid (heap_alloc_new wr _)
    have S1 := Lib.hid (hI.below BX)
    have HP := Lib.hid hP
    have HXT : Hid (¬ F wr.heap.size ∧ ¬ G wr.heap.size ∧ ¬ Y wr.heap.size ∧ wr.heap.size ≠ gp ∧ wr.heap.size ≠ mp) := Lib.hid (by
      have h1 := hI.fresh (Nat.le_refl wr.heap.size)
      have h2 := hI.pl.m.lt
      exact ⟨h1.2.1, h1.2.2.1, h1.2.2.2.1, h1.2.2.2.2, by omega⟩)
    have LK := S1.out.pl.lookOk ca hfa
    obtain ⟨hRow, hRB, hRY⟩ := S1.out.pl.row ca
    obtain ⟨ra, rc, hro⟩ : ∃ ra rc, rowOf (rowAt R ca) = .slice ra (octAt R ca).length rc := wrow_sh hRow
    obtain ⟨xs, hxs⟩ : ∃ xs, octAt R ca = xs := ⟨_, rfl⟩
    obtain ⟨xn, hxn⟩ : ∃ xn, xs.length = xn := ⟨_, rfl⟩
    obtain ⟨tb, htb⟩ : ∃ tb, (lookN R ca).isSome = tb := ⟨_, rfl⟩
    rw [hxs] at hRow hRB hro
    rw [hxn] at hro
    rw [hro, htb] at LK
    rw [hro] at hRow hRY
    have HRO := Lib.hid hro
    have HXS := Lib.hid (And.intro hxs (And.intro hxn htb))
    have HRW := Lib.hid (And.intro hRow (And.intro hRB hRY))
    clear hrd hz BX hI hP hfk hfa hfb hfc hd1 hd2 hln hRow hRB hRY hro hxs hxn htb hb
    have t0 := HX1.out.cells.1
    have t1 := HX1.out.cells.2.1
    go_upto_block 2 with fail
    generalize wr.alloc (.cells #[.int .i64 ck, .int .i64 ca, .int .i64 cb, .int .i64 cc', .slice da dn dc] 36) = W1 at *
    generalize wr.heap.size = bx at *
    clear g0 g1 g2 g3 g4 t0 t1 LK
    refine wp_cut_framed 336 (fun f wx => f 5 = .pointer (some ⟨bp, 0, none⟩) ∧ f 6 = .pointer (some ⟨hp, 0, none⟩) ∧ f 8 = .map (some mp) ∧ f 9 = .map (some gp) ∧ f 62 = .slice (some ⟨lb, lo, none⟩) M cc ∧ f 63 = .int .i64 (M : Int) ∧ f 64 = .int .i64 (k : Int) ∧ CmE w hp bp mp gp (k + 1) wx) _ _ ?_ ?_
    · clear hJ hK
      intro J K' hJ hK
      by_cases hA : ck = 0 ∨ ck = 1
      · as_aux_lemma =>
        --[[A
        obtain ⟨n0, n1, n2⟩ := HX1.out.cells
        have hlb : S.last < 1000000000 := by have := HP.out.few.1; omega
        have AL := Lib.hid (fun way => allocM_any S1.out.hb HP.out.pol hlb cb way)
        have hcb := HFA.out.2
        rcases hA with rfl | rfl
        all_goals
          go_wp2_with fail
          refine (AL.out _).mono ?_
          rintro e W2 hp2
          rcases hp2 with ⟨er, her, _, rfl, G', b', hHB, hG', hT⟩ | ⟨hE0, rfl, at', mem2, vm2, vb2, F', G', b', hpl, hle, hHB, hF', hG', hT⟩
          · have hE1 : (er != 0) = true := bne_iff_ne.2 her
            have FIN : Hid (CmE w hp bp mp gp (k + 1) W2) := Lib.hid ⟨S, vm, vb, vh, vhs, F, G', Y, b', R, D, K0, (S1.out.turn hHB (fun k hk => Or.inl hk) hG' (hT.mono (fun k hk => Or.inr hk))).more (Nat.le_succ k), HP.out.more (Nat.le_succ k)⟩
            clear her hHB hG' hT AL n0 n1 n2
            go_wp2_with fail
            refine Met.intro (hJ _ _ (by kernel_rfl) ⟨rfl, rfl, rfl, rfl, rfl, rfl, rfl, FIN.out⟩)
          · have hcr : 0 ≤ cb ∧ cb ≤ 100000 := by
              unfold alE at hE0
              rw [HP.out.op, if_neg (by simp)] at hE0
              by_cases h : 0 ≤ cb ∧ cb ≤ 100000
              · exact h
              · rw [if_pos h] at hE0; cases hE0
            obtain ⟨cn, rfl⟩ : ∃ cn : Nat, cb = cn := ⟨cb.toNat, by omega⟩
            rw [Int.toNat_natCast] at hpl hle hHB
            have hcn : cn ≤ 100000 := by omega
            have C2 := Lib.hid (S1.out.turn hHB hF' hG' hT)
            have GV := HP.out.given (fun x hx => S1.out.hb.hm.hb x hx) (hpl.imp (fun ⟨a, b⟩ => ⟨by omega, b⟩) (fun ⟨a, b⟩ => ⟨by omega, b⟩)) hle (some (W2.heap.size, cn, cn))
            have hk1 : -9223372036854775808 ≤ (S.last : Int) + 1 ∧ (S.last : Int) + 1 ≤ 9223372036854775807 := by omega
            have LK2 := C2.out.pl.look ((S.last : Int) + 1) hk1
            have GK2 := C2.out.kp.look ((S.last : Int) + 1) hk1
            rw [GV.2.2.2] at GK2
            have er0 : rowAt R ((S.last : Int) + 1) = none := by unfold rowAt; rw [GV.2.2.1]; rfl
            rw [er0] at LK2
            have LK3 : (Instr.lookup 32 (.map (some mp)) (.int .i64 ((S.last : Int) + 1)) false).run Try.prog W2 = .ok (.slice none 0 0) W2 := LK2
            have X2 := Lib.hid (HX1.out.touch hT (fun e => e.elim HXT.out.1 HXT.out.2.1))
            obtain ⟨m0, m1, m2⟩ := X2.out.cells
            have MK := run_makeBytes W2 cn cn (by omega) (by omega) (by omega)
            rw [Int.toNat_natCast] at MK
            have HGV := Lib.hid GV
            have AM : Below W2.heap.size W2 (W2.alloc (.cells ((zeros cn).map (Value.int .u8)).toArray 5)) := (Below.refl _ _).alloc (Nat.le_refl _) _
            obtain ⟨W4, Y', D', hrun, hM4⟩ := C2.out.add (key := S.last + 1) (o := some (W2.heap.size, cn, cn)) (xs := zeros cn) AM (by rw [show (zeros cn).length = cn from by simp [zeros]]; exact own_zeros hcn) (zeros_bytes cn) (by omega) HGV.out.2.1 (by
              have h1 : R.length = S.bl.length := by
                have := congrArg List.length HP.out.con
                simpa using this
              have := S1.out.hb.hm.big.2.1
              omega)
            rw [show ((S.last + 1 : Nat) : Int) = (S.last : Int) + 1 by omega] at hrun
            have FIN : Hid (CmE w hp bp mp gp (k + 1) W4) := Lib.hid ⟨_, _, _, _, _, _, _, _, _, _, _, _, hM4.more (Nat.le_succ k), HGV.out.1⟩
            have HRUN := Lib.hid hrun
            clear hE0 hpl hle hHB hF' hG' hT AL n0 n1 n2 GV LK2 er0 AM hM4 hrun hcr
            go_wp2_with (at_mapUpdate; go_must (refine wpList_update_runP rfl _ _ _ _ rfl (by rfl) (by rfl) (by rfl) HRUN.out ?_))
            clear HRUN
            go_wp2_with fail
            refine Met.intro (hJ _ _ (by kernel_rfl) ⟨rfl, rfl, rfl, rfl, rfl, rfl, rfl, FIN.out⟩)
        --]]A
      · by_cases k2 : ck = 2
        · as_aux_lemma =>
          --[[F
          subst k2
          obtain ⟨n0, n1, n2⟩ := HX1.out.cells
          have FR := Lib.hid (freeM_any S1.out.hb ca)
          have IFF := Lib.hid (fnd_iff HP.out.con HP.out.op (fun x hx => ⟨(S1.out.hb.hm.hb x hx).1, (S1.out.hb.hm.hb x hx).2.1⟩) ca)
          have hcab := HFA.out.1
          go_wp2_with fail
          refine FR.out.mono ?_
          rintro e W2 ⟨rfl, ⟨hne, hb2⟩ | ⟨he0, vb', hHB, hT⟩⟩
          · have hE1 : (fndE S ca == 0) = false := by simpa using hne
            have htb : tb = false := by
              rw [← HXS.out.2.2]
              cases h : (lookN R ca).isSome with
              | false => rfl
              | true => exact absurd (IFF.out.1.2 h) hne
            subst htb
            have C2 := Lib.hid (S1.out.below hb2)
            have X2 := Lib.hid (HX1.out.below hb2)
            obtain ⟨m0, m1, m2⟩ := X2.out.cells
            have GK2 := C2.out.kp.look ca hcab
            have FIN : Hid (CmE w hp bp mp gp (k + 1) W2) := Lib.hid ⟨_, _, _, _, _, _, _, _, _, _, _, _, C2.out.more (Nat.le_succ k), HP.out.more (Nat.le_succ k)⟩
            cases hK : K0 ca with
            | false =>
              rw [hK] at GK2
              clear hb2 FR n0 n1 n2 hne
              generalize fndE S ca = er at *
              go_wp2_with fail
              refine Met.intro (hJ _ _ (by kernel_rfl) ⟨rfl, rfl, rfl, rfl, rfl, rfl, rfl, FIN.out⟩)
            | true =>
              rw [hK] at GK2
              have hg := HP.out.gone ca hK
              have e13 := IFF.out.2 hg.1 hg.2.1 (by rw [hg.2.2]; rfl)
              rw [e13] at hE1 ⊢
              clear hb2 FR n0 n1 n2 hne hg e13
              go_wp2_with fail
              refine Met.intro (hJ _ _ (by kernel_rfl) ⟨rfl, rfl, rfl, rfl, rfl, rfl, rfl, FIN.out⟩)
          · have hsome := IFF.out.1.1 he0
            have htb : tb = true := by rw [← HXS.out.2.2]; exact hsome
            subst htb
            have hK : K0 ca = false := by
              cases h : K0 ca with
              | false => rfl
              | true => rw [(HP.out.gone ca h).2.2] at hsome; cases hsome
            have C2 := Lib.hid (S1.out.turn hHB (fun k hk => Or.inl hk) (fun k hk => Or.inl hk) (hT.mono (fun k hk => Or.inl hk)))
            have X2 := Lib.hid (HX1.out.touch hT HXT.out.1)
            obtain ⟨m0, m1, m2⟩ := X2.out.cells
            have GK2 := C2.out.kp.look ca hcab
            rw [hK] at GK2
            rw [he0]
            have hkey := Maps.keyOf_int_mk (P := Try.prog) (k := 3) Try.underlying3 (a := ca) (WalkArith.wf_i64 hcab)
            have hown := C2.out.pl.m
            have HSM := Lib.hid hsome
            have PF := Lib.hid (HP.out.freed (fun x hx => S1.out.hb.hm.hb x hx) hsome)
            clear FR n0 n1 n2 hHB hT hsome hK he0
            go_wp2_with (at_delete; go_must (refine wpList_delete_own _ rfl _ _ 32 3 rfl 34 intKey Try.underlying32 rowElem mp R.length D rfl (by exact hown) (.int .i64 ca) (.int .i64 ca) rfl hkey ?_))
            intro W3 hown3 hturn
            obtain ⟨q, hq⟩ := Option.isSome_iff_exists.1 HSM.out
            have C3 := Lib.hid (C2.out.del hq hown3 hturn.grown)
            have hne : bx ≠ mp := HXT.out.2.2.2.2
            have X3 : Hid (OpBx bx 2 ca cb cc' (.slice da dn dc) W3) := Lib.hid ((hturn.grown.block bx (lt_of X2.out) (fun e => hne (Option.some.inj e))).trans X2.out)
            obtain ⟨q0, q1, q2⟩ := X3.out.cells
            obtain ⟨W4, hrun, hM4⟩ := C3.out.mark hcab (by omega)
            have FIN : Hid (CmE w hp bp mp gp (k + 1) W4) := Lib.hid ⟨_, _, _, _, _, _, _, _, _, _, _, _, hM4, PF.out.more (Nat.le_succ k)⟩
            have HRUN := Lib.hid hrun
            clear hown hown3 hturn m0 m1 m2 GK2 hq hrun hM4 hkey
            go_wp2_with (at_mapUpdate; go_must (refine wpList_update_runP rfl _ _ _ _ rfl (by rfl) (by rfl) (by rfl) HRUN.out ?_))
            clear HRUN
            go_wp2_with fail
            refine Met.intro (hJ _ _ (by kernel_rfl) ⟨rfl, rfl, rfl, rfl, rfl, rfl, rfl, FIN.out⟩)
          --]]F
        · by_cases k3 : ck = 3
          · as_aux_lemma =>
            --[[R
            subst k3
            obtain ⟨n0, n1, n2⟩ := HX1.out.cells
            have RZ := Lib.hid (resizeM_any S1.out.hb HP.out.pol ca cb)
            have hcab := HFA.out.1
            go_wp2_with fail
            refine RZ.out.mono ?_
            rintro e W2 hp2
            rcases hp2 with ⟨hne, rfl, hb2⟩ | ⟨hz0, i, x, hf, ⟨er, her, _, _, _, rfl, G', b', hHB, hG', hT⟩ | ⟨y, rfl, mem2, vm2, F', G', b', hok, hHB, hF', hG', hT⟩⟩
            · have hE1 : (rzE S ca cb == 0) = false := by simpa using hne
              have FIN : Hid (CmE w hp bp mp gp (k + 1) W2) := Lib.hid ⟨_, _, _, _, _, _, _, _, _, _, _, _, (S1.out.below hb2).more (Nat.le_succ k), HP.out.more (Nat.le_succ k)⟩
              clear hb2 RZ n0 n1 n2 hne
              generalize rzE S ca cb = er at *
              go_wp2_with fail
              refine Met.intro (hJ _ _ (by kernel_rfl) ⟨rfl, rfl, rfl, rfl, rfl, rfl, rfl, FIN.out⟩)
            · have hE1 : (er == 0) = false := by simpa using her
              have FIN : Hid (CmE w hp bp mp gp (k + 1) W2) := Lib.hid ⟨S, vm, vb, vh, vhs, F, G', Y, b', R, D, K0, (S1.out.turn hHB (fun k hk => Or.inl hk) hG' (hT.mono (fun k hk => Or.inr hk))).more (Nat.le_succ k), HP.out.more (Nat.le_succ k)⟩
              clear her hHB hG' hT RZ n0 n1 n2
              go_wp2_with fail
              refine Met.intro (hJ _ _ (by kernel_rfl) ⟨rfl, rfl, rfl, rfl, rfl, rfl, rfl, FIN.out⟩)
            · have hcr : 0 ≤ cb ∧ cb ≤ 100000 := by
                unfold rzE at hz0
                by_cases h1 : fndE S ca ≠ 0
                · rw [if_pos h1] at hz0; exact absurd hz0 h1
                · rw [if_neg h1] at hz0
                  by_cases h : 0 ≤ cb ∧ cb ≤ 100000
                  · exact h
                  · rw [if_pos h] at hz0; cases hz0
              obtain ⟨cn, rfl⟩ : ∃ cn : Nat, cb = cn := ⟨cb.toNat, by omega⟩
              rw [Int.toNat_natCast] at hok
              have hcn : cn ≤ 100000 := by omega
              have hin : ∀ z ∈ S.bl, z.at' + z.len ≤ S.mem.length := fun z hz => (S1.out.hb.hm.hb z hz).2.2
              have hnd : (S.bl.map Blk.h).Nodup := S1.out.hb.hm.ord.imp (fun h => by omega)
              obtain ⟨hxi, hxh⟩ := findB_at hf
              have hcl := con_look HP.out.con ca
              rw [hf] at hcl
              obtain ⟨o, hlo, _⟩ := hcl
              have hxs : octB S.mem x = xs := by
                have h1 := HXS.out.1
                unfold octAt at h1
                rw [hlo] at h1
                exact h1
              have C2 := Lib.hid (S1.out.turn hHB hF' hG' hT)
              have X2 := Lib.hid (HX1.out.touch hT (fun e => e.elim HXT.out.1 HXT.out.2.1))
              obtain ⟨m0, m1, m2⟩ := X2.out.cells
              have MK := run_makeBytes W2 cn cn (by omega) (by omega) (by omega)
              rw [Int.toNat_natCast] at MK
              have AM : Below W2.heap.size W2 (W2.alloc (.cells ((zeros cn).map (Value.int .u8)).toArray 5)) := (Below.refl _ _).alloc (Nat.le_refl _) _
              have RM := heap_alloc_new W2 (.cells ((zeros cn).map (Value.int .u8)).toArray 5)
              have hxl : xs.length ≤ 100000 := by
                rw [← hxs, octB_len (hin x (List.mem_of_getElem? hxi))]
                have := hin x (List.mem_of_getElem? hxi)
                have := S1.out.hb.hm.big.1
                omega
              have rX : Reads (W2.alloc (.cells ((zeros cn).map (Value.int .u8)).toArray 5)) .u8 (.slice ra xn rc) xs := by
                have h1 := (C2.out.pl.row ca).1
                rw [HRO.out, HXS.out.1, HXS.out.2.1] at h1
                rw [← HXS.out.2.1] at h1 ⊢
                exact Reads.own (k := .u8) (zs := xs) (row_kept h1 AM) (by omega)
              obtain ⟨W3, rv, CPY, hr3, ht3⟩ := copy_min (W2.alloc (.cells ((zeros cn).map (Value.int .u8)).toArray 5)) W2.heap.size cn ra xn rc (zeros cn) xs RM (by simp [zeros]) rX HXS.out.2.1
              have e3 : splice (zeros cn) 0 (xs.take cn) = rsO xs cn := reM_splice xs cn
              rw [e3] at hr3
              have hb3 : Below W2.heap.size W2 W3 := AM.trans (ht3.below AM.size (fun k hk => by rw [hk]; exact Nat.le_refl _))
              have own3 : W3.ownsRow W2.heap.size 5 1 (rowOf (some (W2.heap.size, cn, cn))) (rsO xs cn).length (cellsB (rsO xs cn)) := by
                have e4 := rsO_len xs cn
                refine ⟨by simp [cellsB], Or.inr ⟨W2.heap.size, cn, _, by show Value.slice _ _ _ = _; rw [e4], Nat.le_refl _, hr3, by rw [e4]; exact Nat.le_refl _, by unfold maxLen; omega, by simp [e4], ?_⟩⟩
                rw [List.toList_toArray, Nat.mul_one, e4, List.take_of_length_le (by simp [e4])]
                rfl
              have by3 : bytes (rsO xs cn) := fun z hz => by
                unfold rsO at hz
                rcases List.mem_append.1 hz with h1 | h1
                · rw [← hxs] at h1
                  exact S1.out.hb.hm.mb z (List.mem_of_mem_drop (List.mem_of_mem_take (List.mem_of_mem_take h1)))
                · exact zeros_bytes _ z h1
              have X3 := Lib.hid (X2.out.below hb3)
              have hlx : lookN R ((x.h : Nat) : Int) = some (o, octB S.mem x) := by rw [hxh]; exact hlo
              obtain ⟨W4, Y', D', hrun, hM4⟩ := C2.out.put (key := x.h) (o := some (W2.heap.size, cn, cn)) (xs := rsO xs cn) hb3 own3 by3 (by have := (S1.out.hb.hm.hb x (List.mem_of_getElem? hxi)).2.1; have := S1.out.hb.hm.big.2.2.1; omega) hlx (by
                have h1 : R.length = S.bl.length := by
                  have := congrArg List.length HP.out.con
                  simpa using this
                have := S1.out.hb.hm.big.2.1
                omega)
              rw [hxh] at hrun
              have PZ := HP.out.sized (o := some (W2.heap.size, cn, cn)) hnd hin hxi hok
              rw [hxs] at PZ
              have FIN : Hid (CmE w hp bp mp gp (k + 1) W4) := Lib.hid ⟨_, _, _, _, _, _, _, _, _, _, _, _, hM4.more (Nat.le_succ k), PZ.more (Nat.le_succ k)⟩
              have HRUN := Lib.hid hrun
              obtain ⟨q0, q1, q2⟩ := X3.out.cells
              clear hok hHB hF' hG' hT RZ n0 n1 n2 hz0 hcr hin hnd hxi hxh hlo hxs AM RM hxl rX hr3 ht3 e3 hb3 own3 by3 hlx hrun hM4 PZ hf
              go_wp2_with (at_mapUpdate; go_must (refine wpList_update_runP rfl _ _ _ _ rfl (by rfl) (by rfl) (by rfl) HRUN.out ?_))
              clear HRUN
              go_wp2_with fail
              refine Met.intro (hJ _ _ (by kernel_rfl) ⟨rfl, rfl, rfl, rfl, rfl, rfl, rfl, FIN.out⟩)
            --]]R
          · by_cases k4 : ck = 4
            · as_aux_lemma =>
              --[[L
              subst k4
              obtain ⟨n0, n1, n2⟩ := HX1.out.cells
              have LO := Lib.hid (lookM_any S1.out.hb.hm ca 0 (xn : Int))
              have hcab := HFA.out.1
              go_wp2_with fail
              refine LO.out.mono ?_
              rintro e W2 ⟨hb2, ⟨hne, rfl⟩ | ⟨he0, i, x, hf, ⟨hne, rfl⟩ | ⟨hl0, ad, rfl, had⟩⟩⟩
              · have hE1 : (fndE S ca == 0) = false := by simpa using hne
                have FIN : Hid (CmE w hp bp mp gp (k + 1) W2) := Lib.hid ⟨_, _, _, _, _, _, _, _, _, _, _, _, (S1.out.below hb2).more (Nat.le_succ k), HP.out.more (Nat.le_succ k)⟩
                clear hb2 LO n0 n1 n2 hne
                generalize fndE S ca = er at *
                go_wp2_with fail
                refine Met.intro (hJ _ _ (by kernel_rfl) ⟨rfl, rfl, rfl, rfl, rfl, rfl, rfl, FIN.out⟩)
              · have hE1 : (lkE x 0 (xn : Int) == 0) = false := by simpa using hne
                have FIN : Hid (CmE w hp bp mp gp (k + 1) W2) := Lib.hid ⟨_, _, _, _, _, _, _, _, _, _, _, _, (S1.out.below hb2).more (Nat.le_succ k), HP.out.more (Nat.le_succ k)⟩
                clear hb2 LO n0 n1 n2 hne
                generalize lkE x 0 (xn : Int) = er at *
                go_wp2_with fail
                refine Met.intro (hJ _ _ (by kernel_rfl) ⟨rfl, rfl, rfl, rfl, rfl, rfl, rfl, FIN.out⟩)
              · have e1 : ((xn : Int) - 0).toNat = xn := by omega
                rw [e1] at had ⊢
                have hin : ∀ z ∈ S.bl, z.at' + z.len ≤ S.mem.length := fun z hz => (S1.out.hb.hm.hb z hz).2.2
                have hnd : (S.bl.map Blk.h).Nodup := S1.out.hb.hm.ord.imp (fun h => by omega)
                obtain ⟨hxi, hxh⟩ := findB_at hf
                have hcl := con_look HP.out.con ca
                rw [hf] at hcl
                obtain ⟨o, hlo, _⟩ := hcl
                have hro : rowOf o = .slice ra xn rc := by
                  have h1 := HRO.out
                  unfold rowAt at h1
                  rw [hlo] at h1
                  exact h1
                have hxs : octB S.mem x = xs := by
                  have h1 := HXS.out.1
                  unfold octAt at h1
                  rw [hlo] at h1
                  exact h1
                have hxin := hin x (List.mem_of_getElem? hxi)
                have hxl : x.len = xn := by rw [← HXS.out.2.1, ← hxs, octB_len hxin]
                have C2 := Lib.hid (S1.out.below hb2)
                have X2 := Lib.hid (HX1.out.below hb2)
                have hlx : lookN R ((x.h : Nat) : Int) = some (o, xs) := by rw [hxh, hlo, hxs]
                have hbig := S1.out.hb.hm.big.1
                rw [hxl] at hxin
                have PW := Lib.hid (fun o => (HP.out.wrote (o := o) ((k : Int) + 1) hnd hin hxi).more (Nat.le_succ k))
                rw [hxl, hxs] at PW
                have HLX := Lib.hid hlx
                have HHH := Lib.hid hxh
                have HAD := Lib.hid had
                have HRO2 := Lib.hid hro
                have HXIN := Lib.hid hxin
                have C0 : Hid (CmM w hp bp mp gp k { S with mem := incA ((k : Int) + 1) S.mem x.at' 0 } vm vb vh vhs F G Y b (putR R x.h o (incA ((k : Int) + 1) xs 0 0)) D K0 W2) := Lib.hid (by
                  rw [show incA ((k : Int) + 1) xs 0 0 = xs from rfl, putR_self C2.out.pl.ks hlx]
                  exact C2.out)
                obtain ⟨m0, m1, m2⟩ := X2.out.cells
                clear LO n0 n1 n2 hb2 hin hnd hxi hlo hro hxs had hlx hl0 he0 hf e1 hxh
                go_wp2_with fail
                refine wp_loop_framed 336 (fun g f wr => ∃ j : Nat, j ≤ xn ∧ g = xn - j ∧ f 5 = .pointer (some ⟨bp, 0, none⟩) ∧ f 6 = .pointer (some ⟨hp, 0, none⟩) ∧ f 8 = .map (some mp) ∧ f 9 = .map (some gp) ∧ f 62 = .slice (some ⟨lb, lo, none⟩) M cc ∧ f 63 = .int .i64 (M : Int) ∧ f 64 = .int .i64 (k : Int) ∧ f 10 = .int .i64 (k : Int) ∧ f 12 = .slice ra xn rc ∧ f 20 = .slice ad xn xn ∧ f 256 = .int .i64 (xn : Int) ∧ f 257 = .int .i64 (j : Int) ∧
                  CmM w hp bp mp gp k { S with mem := incA ((k : Int) + 1) S.mem x.at' j } vm vb vh vhs F G Y b (putR R x.h o (incA ((k : Int) + 1) xs 0 j)) D K0 wr) _ [] (by kernel_rfl) xn ⟨0, Nat.zero_le _, rfl, rfl, rfl, rfl, rfl, rfl, rfl, rfl, rfl, rfl, by first | rfl | simp, by first | rfl | simp, rfl, C0.out⟩ ?_
                clear C0
                intro g2 f wr ⟨j, hj, hg2, f5, f6, f8, f9, f62, f63, f64, f10, f12, f20, f256, f257, hC⟩ J2 K2 hJ2 hK2
                rw [slots336]
                rw [f5, f6, f8, f9, f10, f12, f20, f62, f63, f64, f256, f257]
                clear f5 f6 f8 f9 f10 f12 f20 f62 f63 f64 f256 f257
                by_cases hjl : j < xn
                · obtain ⟨gm, cm, hvm, rfl⟩ := HAD.out (by omega)
                  have hfull := hC.hb.hm.full (by show 0 < (incA ((k : Int) + 1) S.mem x.at' j).length; rw [incA_len]; omega) hvm
                  obtain ⟨g', hg', hrow, _⟩ := hC.hb.hm.bytes (by show 0 < (incA ((k : Int) + 1) S.mem x.at' j).length; rw [incA_len]; omega)
                  rw [hfull] at hg'
                  simp only [Value.slice.injEq, Option.some.injEq, Addr.mk.injEq, and_true] at hg'
                  obtain rfl := hg'
                  have hmj : (incA ((k : Int) + 1) S.mem x.at' j)[x.at' + j]? = some (S.mem.getD (x.at' + j) 0) := by
                    rw [incA_get _ _ _ _ (by omega), if_neg (by omega), List.getD_eq_getElem?_getD, List.getElem?_eq_getElem (by omega)]
                    rfl
                  have hub := hC.hb.hm.mb _ (List.mem_of_getElem? hmj)
                  have d0 : wr.cell? ⟨gm, x.at' + j, none⟩ = some (.int .u8 (S.mem.getD (x.at' + j) 0)) := by
                    rw [cell_of hrow]
                    show ((incA ((k : Int) + 1) S.mem x.at' j).map (Value.int .u8)).toArray[x.at' + j]? = _
                    rw [List.getElem?_toArray, List.getElem?_map, hmj]
                    rfl
                  have z0 := free_of hrow (x.at' + j)
                  have hl2 : lookN (putR R x.h o (incA ((k : Int) + 1) xs 0 j)) ((x.h : Nat) : Int) = some (o, incA ((k : Int) + 1) xs 0 j) := by rw [putR_look, if_pos rfl, HLX.out]; rfl
                  obtain ⟨r1, r2⟩ := hC.pl.st _ (lookN_val hl2)
                  simp only at r1 r2
                  have hxj : (incA ((k : Int) + 1) xs 0 j)[j]? = some (xs.getD j 0) := by
                    rw [incA_get _ _ _ _ (by rw [HXS.out.2.1]; omega), if_neg (by omega), List.getD_eq_getElem?_getD, List.getElem?_eq_getElem (by rw [HXS.out.2.1]; omega)]
                    rfl
                  have hvb2 := hC.pl.oct _ (lookN_val hl2) _ (List.mem_of_getElem? hxj)
                  rw [HRO2.out, incA_len, HXS.out.2.1] at r1
                  rw [HRO2.out] at r2
                  obtain ⟨gx, hga, d1, z1⟩ := wrow_cell r1 (j := j) (u := .int .u8 (xs.getD j 0)) (by unfold cellsB; rw [List.getElem?_map, hxj]; rfl)
                  subst hga
                  have hgx : gx ≠ gm := fun e => hC.ap gm (Or.inl (hC.hb.hm.mem.2 gm (by rw [hvm]; rfl))) (e ▸ r2 gx rfl)
                  obtain ⟨u, hu⟩ : ∃ u, S.mem.getD (x.at' + j) 0 = u := ⟨_, rfl⟩
                  obtain ⟨v, hv⟩ : ∃ v, xs.getD j 0 = v := ⟨_, rfl⟩
                  rw [hu] at d0 hub
                  rw [hv] at d1 hvb2
                  have HU := Lib.hid (And.intro hu (And.intro hv (And.intro hfull hl2)))
                  have HCC := Lib.hid hC
                  have e0 : x.at' + (0 : Int).toNat = x.at' := by simp
                  clear hvm hfull hrow hmj r1 r2 hxj hu hv hl2 hC
                  have C1 := HCC.out.poke (j := x.at' + j) (u := (u + ((k : Int) + 1)) % 256) HU.out.2.2.1 (by show x.at' + j < (incA ((k : Int) + 1) S.mem x.at' j).length; rw [incA_len]; omega) (by omega)
                  have C3 := C1.pokeR (j := j) (u := (v + ((k : Int) + 1)) % 256) HU.out.2.2.2 HRO2.out (by omega)
                  have em : (incA ((k : Int) + 1) S.mem x.at' j).set (x.at' + j) ((u + ((k : Int) + 1)) % 256) = incA ((k : Int) + 1) S.mem x.at' (j + 1) := by rw [incA, HU.out.1]
                  have er : (incA ((k : Int) + 1) xs 0 j).set j ((v + ((k : Int) + 1)) % 256) = incA ((k : Int) + 1) xs 0 (j + 1) := by rw [incA, Nat.zero_add, HU.out.2.1]
                  rw [putR_put, er] at C3
                  simp only [em] at C3
                  have FIN := Lib.hid C3
                  clear C1 C3 em er
                  obtain ⟨curx, hcx⟩ := row_block (HCC.out.pl.st _ (lookN_val HU.out.2.2.2)).1 (k := gx) (by show (rowOf o).ownBlock = _; rw [HRO2.out]; rfl)
                  have hcx2 := (Below.heap_setCell wr ⟨gm, x.at' + j, none⟩ (.int .u8 ((u + ((k : Int) + 1)) % 256)) gx hgx).trans hcx
                  have d1' : (wr.setCell ⟨gm, x.at' + j, none⟩ (.int .u8 ((u + ((k : Int) + 1)) % 256))).cell? ⟨gx, j, none⟩ = some (.int .u8 v) := (cell_of hcx2 j).trans ((cell_of hcx j).symm.trans d1)
                  have z1' := free_of hcx2 j
                  clear hcx hcx2
                  go_upto_region 61 with fail
                  generalize wr.setCell ⟨gm, x.at' + j, none⟩ (.int .u8 ((u + ((k : Int) + 1)) % 256)) = wr2 at *
                  clear d0 z0 d1 z1
                  go_wp2_with fail
                  refine Handed.intro (xn - (j + 1)) (by omega) (hJ2 _ _ _ (by kernel_rfl) ⟨j + 1, by omega, rfl, rfl, rfl, rfl, rfl, rfl, rfl, rfl, rfl, rfl, by first | rfl | simp, by first | rfl | simp, by first | rfl | simp, FIN.out⟩)
                · obtain rfl : j = xn := by omega
                  have FIN : Hid (CmE w hp bp mp gp (k + 1) wr) := Lib.hid ⟨_, _, _, _, _, _, _, _, _, _, _, _, hC.more (Nat.le_succ k), PW.out o⟩
                  clear hC hJ2 hK2
                  go_wp2_with fail
                  refine Met.intro (hJ _ _ (by kernel_rfl) ⟨rfl, rfl, rfl, rfl, rfl, rfl, rfl, FIN.out⟩)
              --]]L
            · as_aux_lemma =>
              --[[C
              have e0 : (ck == 0) = false := beq_eq_false_iff_ne.2 (fun h => hA (Or.inl h))
              have e1 : (ck == 1) = false := beq_eq_false_iff_ne.2 (fun h => hA (Or.inr h))
              have e2 : (ck == 2) = false := beq_eq_false_iff_ne.2 k2
              have e3 : (ck == 3) = false := beq_eq_false_iff_ne.2 k3
              have e4 : (ck == 4) = false := beq_eq_false_iff_ne.2 k4
              have BLK := Lib.hid (blocksM_any S1.out.hb.hm)
              clear hA k2 k3 k4
              go_wp2_with fail
              refine BLK.out.mono ?_
              rintro e Wb ⟨vB, rfl, hrB, hbB⟩
              have S2 := Lib.hid (S1.out.below hbB)
              have GEN := Lib.hid (genM_any S2.out.hb.hm)
              obtain ⟨BL, hBL⟩ : ∃ BL, S.bl.length = BL := ⟨_, rfl⟩
              obtain ⟨ba, bc, hv⟩ := wrow_sh hrB
              rw [hBL] at hv
              subst hv
              have HBL := Lib.hid hBL
              have HRB := Lib.hid hrB
              have hB500 : BL ≤ 500 := by rw [← hBL]; exact S1.out.hb.hm.big.2.1
              have hcn : S.count ≤ 40 := by have := HP.out.few.2; omega
              have hF2 : Hid (∀ j, (Value.slice ba BL bc).ownBlock = some j → ¬ F j ∧ ¬ G j) := Lib.hid (fun j hj => by
                have h1 := (hrB.lt j hj).1
                have := S1.out.fresh h1
                exact ⟨this.2.1, this.2.2.1⟩)
              clear hrB hbB hBL BLK
              go_wp2_with fail
              refine GEN.out.mono ?_
              rintro e w' ⟨rfl, hw'⟩
              obtain rfl := hw'.symm
              clear hw' GEN
              have CO := Lib.hid (compactM_any S2.out.hb (by have := HP.out.his.1; omega) (by omega) HP.out.apB)
              go_wp2_with fail
              refine CO.out.mono ?_
              rintro e W3 (⟨hcl, _⟩ | ⟨_, S1', S', L, L', a, vS, vh', vhs', F', hS1, hsL, hcpi, hsL', rfl, hrS, hHB, hF', _, hT⟩)
              · rw [HP.out.op] at hcl; cases hcl
              subst hS1
              obtain ⟨P3, TR, GP, haM⟩ := HP.out.compacted ⟨S2.out.hb.hm.big.2.1, S2.out.hb.hm.big.1⟩ (fun x hx => S2.out.hb.hm.hb x hx) hcpi hsL'
              have C3 := Lib.hid (S2.out.turn hHB hF' (fun k hk => Or.inl hk) (hT.mono (fun k hk => Or.inl hk)))
              have R3 : Hid (W3.ownsRow W1.heap.size 52 3 (.slice ba BL bc) S.bl.length (S.bl.flatMap Blk.cells)) := Lib.hid (ownsRow_same HRB.out (fun j hj => hT.block j (HRB.out.lt j hj).2 (hF2.out j hj).1))
              obtain ⟨sa, sc, hv⟩ := wrow_sh hrS
              have ecnt : S'.count = S.count + 1 := by rw [hcpi.st]
              have GEN := Lib.hid (genM_any C3.out.hb.hm)
              have eg : (({ S' with mem := fill 0 S'.mem (endL L') (S'.mem.length - endL L') } : HpSt).count : Int) = (S.count : Int) + 1 := by show (S'.count : Int) = _; rw [ecnt]; omega
              rw [eg] at GEN
              have HP3 := Lib.hid P3
              have HTR := Lib.hid TR
              have HGP := Lib.hid (And.intro GP haM)
              subst hv
              have HIN : Hid (∀ x ∈ S.bl, x.at' + x.len ≤ 100000) := Lib.hid (fun x hx => by have := (S2.out.hb.hm.hb x hx).2.2; have := S2.out.hb.hm.big.1; omega)
              clear CO hsL hcpi hsL' hrS hHB hF' hT P3 TR GP haM ecnt eg
              go_wp2_with fail
              refine GEN.out.mono ?_
              rintro e w' ⟨rfl, hw'⟩
              obtain rfl := hw'.symm
              clear hw' GEN
              obtain ⟨S3, hS3⟩ : ∃ S3, ({ S' with mem := fill 0 S'.mem (endL L') (S'.mem.length - endL L') } : HpSt) = S3 := ⟨_, rfl⟩
              have HS3 : Hid (S3.bl = S'.bl ∧ S3.mem.length = S'.mem.length) := Lib.hid (by rw [← hS3]; exact ⟨rfl, fill_len _ _ _ _⟩)
              rw [hS3] at C3 HP3 HTR
              clear hS3
              go_wp2_with fail
              refine wp_loop_framed 336 (fun g f wr => ∃ j : Nat, j ≤ BL ∧ g = BL - j ∧ f 5 = .pointer (some ⟨bp, 0, none⟩) ∧ f 6 = .pointer (some ⟨hp, 0, none⟩) ∧ f 8 = .map (some mp) ∧ f 9 = .map (some gp) ∧ f 62 = .slice (some ⟨lb, lo, none⟩) M cc ∧ f 63 = .int .i64 (M : Int) ∧ f 64 = .int .i64 (k : Int) ∧ f 24 = .int .i64 (S.count : Int) ∧ f 96 = .slice ba BL bc ∧ f 97 = .int .i64 (BL : Int) ∧ f 98 = .int .i64 (j : Int) ∧ Below W3.heap.size W3 wr) _ [] (by kernel_rfl) BL ⟨0, Nat.zero_le _, rfl, rfl, rfl, rfl, rfl, rfl, rfl, rfl, rfl, rfl, rfl, rfl, Below.refl _ _⟩ ?_
              intro g2 f wr ⟨j, hj, hg2, f5, f6, f8, f9, f62, f63, f64, f24, f96, f97, f98, hbr⟩ J2 K2 hJ2 hK2
              rw [slots336]
              rw [f5, f6, f8, f9, f24, f62, f63, f64, f96, f97, f98]
              clear f5 f6 f8 f9 f24 f62 f63 f64 f96 f97 f98
              by_cases hjl : j < BL
              · obtain ⟨x, hx⟩ : ∃ x, S.bl[j]? = some x := ⟨_, List.getElem?_eq_getElem (by have := HBL.out; omega)⟩
                obtain ⟨g5, cap5, hv5, d0, d1, d2, _⟩ := blk_cells (row_low (row_kept R3.out hbr) (Nat.zero_le _)) hx
                rw [HBL.out] at hv5
                simp only [Value.slice.injEq, true_and] at hv5
                obtain ⟨rfl, rfl⟩ := hv5
                have hmx := List.mem_of_getElem? hx
                have hin := HIN.out x hmx
                have AB : Below wr.heap.size wr (wr.alloc (.cells #[.int .i64 (x.h : Int), .int .i64 (x.at' : Int), .int .i64 (x.len : Int)] 52)) := (Below.refl _ _).alloc (Nat.le_refl _) _
                have AN := heap_alloc_new wr (.cells #[.int .i64 (x.h : Int), .int .i64 (x.at' : Int), .int .i64 (x.len : Int)] 52)
                have HB4 := Lib.hid (hbr.trans (AB.mono hbr.size))
                have HAN := Lib.hid AN
                by_cases hx0 : x.len = 0
                · have hx0' : ((x.len : Int) == 0) = true := by rw [hx0]; rfl
                  clear hx hmx AB AN hx0
                  go_wp2_with fail
                  refine Handed.intro (BL - (j + 1)) (by omega) (hJ2 _ _ _ (by kernel_rfl) ⟨j + 1, by omega, rfl, rfl, rfl, rfl, rfl, rfl, rfl, rfl, rfl, rfl, rfl, by first | rfl | simp, HB4.out⟩)
                · have hx0' : ((x.len : Int) == 0) = false := by simp; exact hx0
                  have TC := traceM_any (C3.out.below HB4.out).hb.hm HP3.out.his (S.count : Int) ((x.at' : Int) + (x.len : Int) - 1)
                  unfold TrPost at TC
                  have h1 := HTR.out x hmx hx0
                  rw [show (((x.at' + x.len : Nat) : Int) - 1) = (x.at' : Int) + (x.len : Int) - 1 by omega] at h1
                  rw [h1] at TC
                  have HTC := Lib.hid TC
                  clear hx hmx AB AN TC h1 hx0
                  go_wp2_with fail
                  generalize wr.alloc (.cells #[.int .i64 (x.h : Int), .int .i64 (x.at' : Int), .int .i64 (x.len : Int)] 52) = w4 at *
                  refine HTC.out.mono ?_
                  rintro e w5 ⟨rfl, hb5⟩
                  have HB5 := Lib.hid (HB4.out.trans (hb5.mono HB4.out.size))
                  have hn5 := (hb5.block _ (lt_of HAN.out)).trans HAN.out
                  have q0 : w5.cell? ⟨wr.heap.size, 0, none⟩ = some (.int .i64 (x.h : Int)) := (cell_of hn5 0).trans rfl
                  have q2 : w5.cell? ⟨wr.heap.size, 2, none⟩ = some (.int .i64 (x.len : Int)) := (cell_of hn5 2).trans rfl
                  clear hb5 hn5 HTC
                  go_wp2_with fail
                  refine Handed.intro (BL - (j + 1)) (by omega) (hJ2 _ _ _ (by kernel_rfl) ⟨j + 1, by omega, rfl, rfl, rfl, rfl, rfl, rfl, rfl, rfl, rfl, rfl, rfl, by first | rfl | simp, HB5.out⟩)
              · obtain rfl : j = BL := by omega
                have C4 := Lib.hid (C3.out.below hbr)
                have GA := Lib.hid (gapsM_any C4.out.hb.hm)
                clear hbr hJ2 hK2
                go_wp2_with fail
                refine GA.out.mono ?_
                rintro e w5 ⟨L5, v5, hs5, rfl, hr5, hb5⟩
                have C5 := Lib.hid (C4.out.below hb5)
                have RMQ := Lib.hid (fun q : Nat => roomM_any (C5.out.hb.hm.same (w' := w5.drewN q) (fun k _ _ => rfl)))
                have FIN : Hid (∀ q : Nat, CmE w hp bp mp gp (k + 1) (w5.drewN q)) := Lib.hid (fun q => ⟨_, _, _, _, _, _, _, _, _, _, _, _, (C5.out.below (bdrewN (Below.refl _ w5) q)).more (Nat.le_succ k), HP3.out⟩)
                have h9 := HGP.out.1 L5 (by have := hs5; rw [HS3.out.1] at this; exact this)
                rw [← HS3.out.2] at h9
                rw [h9] at hr5
                obtain ⟨mL, hmL⟩ : ∃ mL, S3.mem.length = mL := ⟨_, rfl⟩
                have hmb := C5.out.hb.hm.big.1
                rw [hmL] at hr5 RMQ hmb
                have haM := HGP.out.2
                rw [← HS3.out.2, hmL] at haM
                clear hb5 hs5 GA hmL h9
                by_cases haL : a < mL
                · rw [if_pos haL] at hr5
                  obtain ⟨g5, cap5, cur5, hv5, _, _, _, _, _, _, hc5⟩ := grow_open hr5 (by simp)
                  subst hv5
                  have d0 : w5.cell? ⟨g5, 0, none⟩ = some (.int .i64 (a : Int)) := by have := hc5 0 _ rfl 0 (by omega); exact this
                  have d1 : w5.cell? ⟨g5, 1, none⟩ = some (.int .i64 ((mL - a : Nat) : Int)) := by have := hc5 0 _ rfl 1 (by omega); exact this
                  have esum : (a : Int) + ((mL - a : Nat) : Int) = (mL : Int) := by omega
                  have hma : mL - a ≤ 100000 := by omega
                  clear hc5 hr5
                  simp only [List.length_cons, List.length_nil, Nat.zero_add]
                  go_upto_region 30 with fail
                  go_quiet (with_reducible exact Calls.quiet_of_same (RMQ.out _))
                  go_wp2_with fail
                  refine Met.intro (hJ _ _ (by kernel_rfl) ⟨rfl, rfl, rfl, rfl, rfl, rfl, rfl, FIN.out _⟩)
                · rw [if_neg haL] at hr5
                  obtain ⟨ea, ec, hv5⟩ := wrow_sh hr5
                  simp only [List.length_nil] at hv5
                  subst hv5
                  clear hr5
                  go_upto_region 30 with fail
                  go_quiet (with_reducible exact Calls.quiet_of_same (RMQ.out _))
                  go_wp2_with fail
                  refine Met.intro (hJ _ _ (by kernel_rfl) ⟨rfl, rfl, rfl, rfl, rfl, rfl, rfl, FIN.out _⟩)
              --]]C
    · clear S1 HX1 HXT HRO HXS HRW HFA HP
      clear f S vm vb vh vhs F G Y b R D K0
      intro f wx ⟨f5, f6, f8, f9, f62, f63, f64, S, vm, vb, vh, vhs, F, G, Y, b, R, D, K0, hI, hP⟩
      rw [slots336]
      rw [f5, f6, f8, f9, f62, f63, f64]
      clear f5 f6 f8 f9 f62 f63 f64
      --[[T
      have hown := hI.pl.m
      obtain ⟨rn, hrn⟩ : ∃ rn, R.length = rn := ⟨_, rfl⟩
      rw [hrn] at hown
      have S2 := Lib.hid hI
      have P2 := Lib.hid hP
      have SUM : Hid ((R.map fun p => p.2.2.length).sum = sumB S.bl) := Lib.hid (con_sum hP.con (fun x hx => (hI.hb.hm.hb x hx).2.2))
      have SUMB : Hid (sumB S.bl ≤ 100000) := Lib.hid (by
        obtain ⟨L1, hL1⟩ := sorted_exists (lieL S.bl)
        have h1 := hP.free_sum (fun x hx => (hI.hb.hm.hb x hx).2.2) hL1
        have h2 := hI.hb.hm.big.1
        omega)
      clear hI hP hrn
      go_wp2_with (first
        | (at_range; refine wpList_range_own _ rfl _ 32 rfl 3 34 intKey Try.underlying32 rowElem mp rn D rfl hown ?_; intro w0 hrg0 hg0 hs0)
        | fail)
      have hb0 : Below wx.heap.size wx w0 := (Below.refl _ wx).grown hg0 (Nat.le_refl _) (fun k e => by cases e)
      have HB0 := Lib.hid hb0
      have HRG0 := Lib.hid hrg0
      generalize hit : wx.heap.size = it at *
      have HIT := Lib.hid hit
      have ST0 : Hid ((0 : Int) = (sumUsed R (Maps.has D) : Int)) := Lib.hid (by
        have h1 : sumUsed R (Maps.has D) = 0 := sumUsed_none (fun p hp => by
          have h2 := lookN_of_mem S2.out.pl.ks (show (p.1, p.2) ∈ R from hp)
          exact Maps.has_true_of_atKey (y := rowD p.2.1) (fun z => by rw [S2.out.pl.l, h2]; rfl))
        rw [h1]
        rfl)
      clear hit hg0 hs0 hb0 hrg0 hown
      refine wp_loop_framed 336 (fun g f wr => f 5 = .pointer (some ⟨bp, 0, none⟩) ∧ f 6 = .pointer (some ⟨hp, 0, none⟩) ∧ f 8 = .map (some mp) ∧ f 9 = .map (some gp) ∧ f 62 = .slice (some ⟨lb, lo, none⟩) M cc ∧ f 63 = .int .i64 (M : Int) ∧ f 64 = .int .i64 (k : Int) ∧ f 280 = .pointer (some ⟨it, 0, none⟩) ∧ Below it wx wr ∧ ∃ left, f 33 = .int .i64 (sumUsed R left : Int) ∧ wr.ranges Try.prog 3 rowElem mp it rn D left g) _ [] (by kernel_rfl) (Maps.size D) ⟨rfl, rfl, rfl, rfl, rfl, rfl, rfl, rfl, HB0.out, _, by show Value.int .i64 0 = _; rw [ST0.out], HRG0.out⟩ ?_
      clear f HB0 HRG0 ST0
      intro g2 f wr ⟨f5, f6, f8, f9, f62, f63, f64, f280, hb, left, f33, hrg⟩ J2 K2 hJ2 hK2
      rw [slots336]
      rw [f5, f6, f8, f9, f33, f62, f63, f64, f280]
      clear f5 f6 f8 f9 f33 f62 f63 f64 f280
      have HB := Lib.hid hb
      have hus := sumUsed_le R left
      rw [SUM.out] at hus
      have hub := SUMB.out
      go_wp2_with (first
        | (at_next; refine wpList_next_ranges _ rfl _ rfl 3 intKey rowElem (fun x : Int => .int .i64 x) (fun c : Option (Nat × Nat × Nat) => rowOf c) (fun key kl hkey => by obtain ⟨x, rfl, _⟩ := Maps.keyOf_int_inv Try.underlying3 hkey; exact ⟨x, rfl⟩) (fun v y hv => rowElem_shape hv) mp it rn D left g2 rfl hrg ?_ ?_)
        | fail)
      · intro hc0 hl0
        have hu : sumUsed R left = sumB S.bl := (sumUsed_all hl0).trans SUM.out
        have S3 := Lib.hid (S2.out.below (by rw [HIT.out]; exact HB.out))
        rw [hu]
        have GA := Lib.hid (gapsM_any S3.out.hb.hm)
        clear hrg hb hc0 hl0 hJ2 hK2 hu hus
        go_wp2_with fail
        refine GA.out.mono ?_
        rintro e w5 ⟨L1, vg, hs1, rfl, hrow, hb5⟩
        have S5 := Lib.hid (S3.out.below hb5)
        have HSUM := Lib.hid (P2.out.free_sum (fun x hx => (S2.out.hb.hm.hb x hx).2.2) hs1)
        obtain ⟨GS, hGS⟩ : ∃ GS, gapsOf S.mem.length L1 = GS := ⟨_, rfl⟩
        rw [hGS] at hrow HSUM
        obtain ⟨GN, hGN⟩ : ∃ GN, GS.length = GN := ⟨_, rfl⟩
        obtain ⟨ga, gc, hv⟩ := wrow_sh hrow
        rw [hGN] at hv
        subst hv
        have HROW := Lib.hid hrow
        have HGN := Lib.hid hGN
        have hgn : GN ≤ 501 := by
          rw [← hGN, ← hGS]
          have h1 := gapsOf_len S.mem.length L1
          have h2 := hs1.len
          have h3 := S2.out.hb.hm.big.2.1
          omega
        have HMB : Hid (S.mem.length ≤ 100000) := Lib.hid S2.out.hb.hm.big.1
        clear hs1 hrow hb5 hGS hGN GA
        go_wp2_with fail
        refine wp_loop_framed 336 (fun g f wr => ∃ j : Nat, j ≤ GN ∧ g = GN - j ∧ f 5 = .pointer (some ⟨bp, 0, none⟩) ∧ f 6 = .pointer (some ⟨hp, 0, none⟩) ∧ f 8 = .map (some mp) ∧ f 9 = .map (some gp) ∧ f 62 = .slice (some ⟨lb, lo, none⟩) M cc ∧ f 63 = .int .i64 (M : Int) ∧ f 64 = .int .i64 (k : Int) ∧ f 33 = .int .i64 (sumB S.bl : Int) ∧ f 305 = .slice ga GN gc ∧ f 306 = .int .i64 (GN : Int) ∧ f 307 = .int .i64 (j : Int) ∧ f 38 = .int .i64 (sumG (GS.take j) : Int) ∧ Below w5.heap.size w5 wr) _ [] (by kernel_rfl) GN ⟨0, Nat.zero_le _, rfl, rfl, rfl, rfl, rfl, rfl, rfl, rfl, rfl, rfl, rfl, rfl, rfl, Below.refl _ _⟩ ?_
        clear f
        intro g3 f wr ⟨j, hj, hg3, f5, f6, f8, f9, f62, f63, f64, f33, f305, f306, f307, f38, hbr⟩ J3 K3 hJ3 hK3
        rw [slots336]
        rw [f5, f6, f8, f9, f33, f38, f62, f63, f64, f305, f306, f307]
        clear f5 f6 f8 f9 f33 f38 f62 f63 f64 f305 f306 f307
        by_cases hjl : j < GN
        · obtain ⟨gx, hx⟩ : ∃ gx, GS[j]? = some gx := ⟨_, List.getElem?_eq_getElem (by have := HGN.out; omega)⟩
          have hs1 : sumG (GS.take (j + 1)) = sumG (GS.take j) + gx.len := by
            rw [List.take_add_one, hx]
            simp [sumG]
          have hle : sumG (GS.take (j + 1)) ≤ sumG GS := by
            have := sumG_append (GS.take (j + 1)) (GS.drop (j + 1))
            rw [List.take_append_drop] at this
            omega
          have hle2 : sumG (GS.take j) + gx.len ≤ 100000 := by have := HSUM.out; have := HMB.out; omega
          have HS1 := Lib.hid hs1
          obtain ⟨g5, cap5, cur5, hv5, _, _, _, _, _, _, hc5⟩ := grow_open (row_kept HROW.out hbr) (by rw [HGN.out]; omega)
          rw [HGN.out] at hv5
          simp only [Value.slice.injEq, true_and] at hv5
          obtain ⟨rfl, rfl⟩ := hv5
          have d0 : wr.cell? ⟨g5, j * 2, none⟩ = some (.int .i64 (gx.at' : Int)) := by have := hc5 j gx hx 0 (by omega); rw [Nat.add_zero] at this; exact this
          have d1 : wr.cell? ⟨g5, j * 2 + 1, none⟩ = some (.int .i64 (gx.len : Int)) := hc5 j gx hx 1 (by omega)
          have HBR := Lib.hid hbr
          obtain ⟨q, hq⟩ : ∃ q, sumG (GS.take j) = q := ⟨_, rfl⟩
          rw [hq] at HS1 hle2
          rw [hq]
          clear hx hs1 hle hc5 hbr hq
          go_wp2_with fail
          refine Handed.intro (GN - (j + 1)) (by omega) (hJ3 _ _ _ (by kernel_rfl) ⟨j + 1, by omega, rfl, rfl, rfl, rfl, rfl, rfl, rfl, rfl, rfl, rfl, rfl, by first | rfl | simp, by rw [HS1.out]; first | rfl | simp, HBR.out.trans ((Below.refl _ _).alloc HBR.out.size _)⟩)
        · obtain rfl : j = GN := by omega
          have ej : GS.take j = GS := List.take_of_length_le (by have := HGN.out; omega)
          rw [ej]
          have HBR := Lib.hid hbr
          have S6 := Lib.hid (S5.out.below hbr)
          have US := Lib.hid (usedM_any S6.out.hb.hm)
          have hsg : sumB S.bl + sumG GS ≤ 100000 := by have := HSUM.out; have := HMB.out; omega
          have hsg2 : ((sumB S.bl : Int) + (sumG GS : Int)) = (S.mem.length : Int) := by have := HSUM.out; omega
          have HS2 := Lib.hid hsg2
          clear ej hbr hJ3 hK3 hsg2
          go_wp2_with fail
          refine US.out.mono ?_
          rintro e w7 ⟨rfl, hb7⟩
          have S7 := Lib.hid (S6.out.below hb7)
          have RM := Lib.hid (roomM_any S7.out.hb.hm)
          have HE := Lib.hid S7.out.hb.held
          have hsg3 := HS2.out
          clear hb7 US
          go_wp2_with fail
          refine RM.out.mono ?_
          rintro e w' ⟨rfl, hw'⟩
          obtain rfl := hw'.symm
          clear hw'
          go_wp2_with fail
          refine HE.out.mono ?_
          rintro e w' ⟨rfl, hw'⟩
          obtain rfl := hw'.symm
          clear hw'
          go_wp2_with fail
          refine RM.out.mono ?_
          rintro e w' ⟨rfl, hw'⟩
          obtain rfl := hw'.symm
          clear hw' RM HE
          have FIN : Hid (CmE w hp bp mp gp (k + 1) w7) := Lib.hid ⟨S, vm, vb, vh, vhs, F, G, Y, b, R, D, K0, S7.out, P2.out⟩
          go_wp2_with fail
          refine Handed.intro (M - (k + 1)) (by omega) (hJ _ _ _ (by kernel_rfl) ⟨k + 1, by omega, rfl, rfl, rfl, rfl, rfl, rfl, rfl, by first | rfl | simp, FIN.out⟩)
      · intro x c kl y ps w2 cnt2 hkey hlk hv hat hrg2 hlt2 hg2 hs2 hen
        obtain ⟨x', ex, rfl, hwx⟩ := Maps.keyOf_int_inv Try.underlying3 hkey
        cases ex
        obtain ⟨sn9, ⟨so, os⟩, rfl, hmem, hy⟩ := look_hasR S2.out.pl.l hat
        subst hy
        have hcv := rowElem_inv hv
        rw [hcv] at hen ⊢
        have hcl := con_look P2.out.con (sn9 : Int)
        have hfnd : ∃ i x, findB S.bl (sn9 : Int) = some (i, x) ∧ octB S.mem x = os := by
          cases hf : findB S.bl (sn9 : Int) with
          | none => rw [hf] at hcl; rw [hcl] at hmem; cases hmem
          | some q =>
            obtain ⟨i, x⟩ := q
            rw [hf] at hcl
            obtain ⟨o, h1, _⟩ := hcl
            rw [h1] at hmem
            simp only [Option.some.injEq, Prod.mk.injEq] at hmem
            exact ⟨i, x, rfl, hmem.2⟩
        obtain ⟨ix, xb, hfx, hox⟩ := hfnd
        have hfe := ((fnd_iff P2.out.con P2.out.op (fun x hx => ⟨(S2.out.hb.hm.hb x hx).1, (S2.out.hb.hm.hb x hx).2.1⟩) (sn9 : Int)).1).2 (by rw [hmem]; rfl)
        have hxl := octB_len (m := S.mem) (x := xb) (S2.out.hb.hm.hb xb (List.mem_of_getElem? (findB_at hfx).1)).2.2
        have hol : os.length ≤ 100000 := by
          have := (S2.out.hb.hm.hb xb (List.mem_of_getElem? (findB_at hfx).1)).2.2
          have := S2.out.hb.hm.big.1
          rw [hox] at hxl
          omega
        have hstep := sumUsed_step S2.out.pl.ks (lookN_val hmem) hlk
        have hus2 := sumUsed_le R (fun z => left z && !z.sameKey (.int .i64 (sn9 : Int)))
        rw [SUM.out, hstep] at hus2
        simp only at hus2 hstep
        have B2 := Lib.hid (hb.grown hg2 (by rw [← HIT.out]; exact hb.size) (fun k e => by cases e; exact Nat.le_refl _))
        have S3 := Lib.hid (S2.out.below (by rw [HIT.out]; exact B2.out))
        obtain ⟨rw2, _⟩ := S3.out.pl.st _ (lookN_val hmem)
        simp only at rw2
        obtain ⟨ra9, rc9, hro9⟩ := wrow_sh rw2
        obtain ⟨on, hon⟩ : ∃ on, os.length = on := ⟨_, rfl⟩
        rw [hro9] at rw2 hen ⊢
        have RW2 := Lib.hid (show Reads w2 .u8 (.slice ra9 os.length rc9) os from Reads.own (k := .u8) (zs := os) rw2 (by omega))
        rw [hon] at hro9 hen RW2 hus2 hstep hol ⊢
        have CP := Lib.hid (copyM_any S3.out.hb.hm (sn9 : Int))
        have HON := Lib.hid hon
        have HRG := Lib.hid hrg2
        have HLT := Lib.hid hlt2
        have HFX := Lib.hid (And.intro hfx (And.intro hox (And.intro hfe hxl)))
        have HST := Lib.hid hstep
        obtain ⟨su, hsu⟩ : ∃ su, sumUsed R left = su := ⟨_, rfl⟩
        rw [hsu] at hus2 HST hus
        rw [hsu]
        have hkb : -9223372036854775808 ≤ (sn9 : Int) ∧ (sn9 : Int) ≤ 9223372036854775807 := range_i64 hwx
        clear hkey hlk hv hat hrg2 hlt2 hg2 hs2 rw2 hro9 hon hrg hb hmem hcv hwx hcl hfx hox hfe hxl hstep hsu
        go_wp2_with fail
        refine CP.out.mono ?_
        rintro e w5 ⟨hb5, ⟨hne, _⟩ | ⟨_, i', x', v5, hf', rfl, hr5⟩⟩
        · exact absurd HFX.out.2.2.1 hne
        rw [HFX.out.1] at hf'
        simp only [Option.some.injEq, Prod.mk.injEq] at hf'
        obtain ⟨rfl, rfl⟩ := hf'
        have e5 : xb.len = on := by rw [← HON.out, ← HFX.out.2.1, HFX.out.2.2.2]
        rw [e5, HFX.out.2.1] at hr5
        obtain ⟨ra5, rc5, rfl⟩ := wrow_sh hr5
        have rd5 : Reads w5 .u8 (.slice ra5 on rc5) os := by
          rw [← HON.out] at hr5 ⊢
          exact Reads.own (k := .u8) (zs := os) (row_low hr5 (Nat.zero_le _)) (by rw [HON.out]; omega)
        have EQ := Lib.hid (equal_oct (RW2.out.below hb5 rfl) HON.out rd5 HON.out)
        have B5 := Lib.hid (B2.out.trans (hb5.mono (by rw [← HIT.out]; exact B2.out.size)))
        have RG5 := Lib.hid (HRG.out.of_walks (walks_below' hb5))
        clear hb5 hr5 rd5 CP HRG e5 hkb
        go_wp2_with fail
        refine EQ.out.mono ?_
        rintro e w' ⟨rfl, hw'⟩
        obtain rfl := hw'.symm
        clear hw' EQ
        go_wp2_with fail
        refine Handed.intro cnt2 HLT.out (hJ2 _ _ _ (by kernel_rfl) ⟨rfl, rfl, rfl, rfl, rfl, rfl, rfl, rfl, B5.out, _, by show Value.int .i64 _ = _; rw [HST.out]; first | rfl | simp, RG5.out⟩)
      --]]T
  · obtain rfl : k = M := by omega
    have FIN := Lib.hid hI.bel
    clear hI hP hJ hK
    go_wp2_with fail
    go_ret
    exact ⟨rfl, FIN.out⟩

end Go.Proofs.Ytjogaohnphafgaa
