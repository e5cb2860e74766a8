/-
  Resize. No conditions but bounds.
-/
import Derived.Test.YtiaedonhbafpjaaTopSlabPbf
import Derived.Test.YtiaedonhbafpjaaTopSlabPak
import Derived.Test.YtiaedonhbafpjaaTopSlabPbg
namespace Go.Proofs.Ytiaedonhbafpjaa
open Go.RowKit Go.Shelf
set_option linter.unusedVariables false

theorem copy_at_fact (w : World) (g o len : Nat) (sp : Option Addr) (n sCap : Nat) (cur : List Int) (cs : List Int) (hg : byteRow w g cur) (hn : cs.length = n) (hnl : n ≤ len)
    (hpos : 0 < n → ∃ ad, sp = some ad ∧ ∀ j v, cs[j]? = some v → w.cell? (ad.add j) = some (.int .u8 v)) (hfit : o + n ≤ cur.length) :
    ∃ w', (Builtin.copy_ #[33, 33] 3 #[.slice (some ⟨g, o, none⟩) len len, .slice sp n sCap]).run Try.prog w = .ok (.int .i64 n) w' ∧ byteRow w' g (splice cur o cs) ∧ Touch (fun k => k = g) w w' := by
  by_cases h0 : n = 0
  · subst h0
    obtain rfl : cs = [] := List.eq_nil_of_length_eq_zero hn
    have hrun := run_copy_none (P := Try.prog) w 33 33 3 5 (some ⟨g, o, none⟩) sp len len 0 sCap Try.underlying33 byteSize (by simp)
    refine ⟨w, ?_, by simpa [splice] using hg, Touch.refl _ _⟩
    rw [hrun]
    rfl
  · obtain ⟨ad, rfl, hsrc⟩ := hpos (by omega)
    have hg2 : w.heap[g]? = some (.cells (cur.map (Value.int .u8)).toArray 5 (0, 0)) := hg
    have hrun := run_copy_row (P := Try.prog) w 33 33 3 5 g o len len ad n sCap (cur.map (Value.int .u8)).toArray 5 (cs.map (Value.int .u8)) Try.underlying33 byteSize hg2 (by simp [hn, Nat.min_eq_left hnl]) (fun j v hj => by
      rw [List.getElem?_map] at hj
      cases hc : cs[j]? with
      | none => rw [hc] at hj; cases hj
      | some u => rw [hc] at hj; cases hj; exact hsrc j u hc) (by simpa [hn] using hfit) (by intro v hv; obtain ⟨z, _, rfl⟩ := List.mem_map.1 hv; rfl)
    refine ⟨w.setRow g ((cur.map (Value.int .u8)).toArray.toList.take o ++ cs.map (Value.int .u8) ++ (cur.map (Value.int .u8)).toArray.toList.drop (o + (cs.map (Value.int .u8)).length)).toArray, hrun.trans (by rw [show (cs.map (Value.int .u8)).length = n from by rw [List.length_map, hn]]; rfl), ?_, ⟨rfl, rfl, rfl, by simp [World.setRow], fun k _ hk => setRow_other w g k _ hk⟩⟩
    have := setRow_heap w g _ ((cur.map (Value.int .u8)).toArray.toList.take o ++ cs.map (Value.int .u8) ++ (cur.map (Value.int .u8)).toArray.toList.drop (o + (cs.map (Value.int .u8)).length)).toArray 5 _ hg2
    unfold byteRow
    rw [this]
    simp [splice, List.map_take, List.map_drop]

/-- A slot has another length. -/
theorem CaMem.lent {w : World} {F : Nat → Prop} {c bp : Nat} {S : CaSt} {vc vs : Value} (m : CaMem w F c bp S vc vs) {x : Sl} {an : Nat} {y : Cel} (hx : x ∈ S.sl) (hy : x.cl[an]? = some y) (hu : y.used = true) (n : Nat) (hn : n ≤ clsN S.classes x.cls) :
    CaMem (w.setCell ⟨x.q, an * 3 + 1, none⟩ (.int .i64 (n : Int))) F c bp (S.put { x with cl := x.cl.set an ⟨y.gen, n, true⟩ }) vc vs ∧ Touch (fun k => k = x.q) w (w.setCell ⟨x.q, an * 3 + 1, none⟩ (.int .i64 (n : Int))) := by
  have mx := m.sl x hx
  have hk : an < x.cl.length := (List.getElem?_eq_some_iff.1 hy).1
  have hc0 := block_setCell mx.cel (an * 3 + 1) (.int .i64 (n : Int))
  have hg0 : (celCells x.cl)[an * 3]? = some (.int .i64 (y.gen : Int)) := (celCells_get _ _ _ hy).1
  have hg2 : (celCells x.cl)[an * 3 + 2]? = some (.bool true) := by rw [← hu]; exact (celCells_get _ _ _ hy).2.2
  have hc : (w.setCell ⟨x.q, an * 3 + 1, none⟩ (.int .i64 (n : Int))).heap[x.q]? = some (.cells (celCells (x.cl.set an ⟨y.gen, n, true⟩)).toArray 71 (0, 0)) := by
    rw [hc0, celCells_set _ _ _ hk]
    congr 2
    apply Array.ext'
    simp only [List.setIfInBounds_toArray]
    apply List.ext_getElem?
    intro j
    simp only [List.getElem?_set, List.length_set]
    by_cases j0 : an * 3 = j
    · subst j0
      have l0 := (List.getElem?_eq_some_iff.1 hg0).1
      rw [if_neg (by omega), if_neg (by omega)]
      have g0 := (List.getElem?_eq_some_iff.1 hg0).2
      simp [l0, g0]
    · by_cases j1 : an * 3 + 1 = j
      · subst j1
        simp
      · by_cases j2 : an * 3 + 2 = j
        · subst j2
          have l2 := (List.getElem?_eq_some_iff.1 hg2).1
          have g2 := (List.getElem?_eq_some_iff.1 hg2).2
          simp [l2, g2]
        · simp [j0, j1, j2]
  have keep : ∀ k, k ≠ x.q → (w.setCell ⟨x.q, an * 3 + 1, none⟩ (.int .i64 (n : Int))).heap[k]? = w.heap[k]? := fun k hk => Below.heap_setCell _ _ _ _ hk
  refine ⟨m.turn hx rfl rfl rfl rfl rfl (mx.celled hc (fun k hk => keep k hk) (by rw [List.length_set]; exact mx.cl)) (fun z hz => ?_) (fun k _ _ hq => keep k hq), (Touch.refl (fun k => k = x.q) w).setCell (p := ⟨x.q, an * 3 + 1, none⟩) (Or.inl rfl) _⟩
  rcases List.mem_or_eq_of_mem_set hz with hz | rfl
  · exact m.lens x hx z hz
  · exact ⟨(m.lens x hx y (List.mem_of_getElem? hy)).1, hn⟩

theorem InUse.val {w : World} {F : Nat → Prop} {c bp : Nat} {S : CaSt} {vc vs : Value} (m : CaMem w F c bp S vc vs) {x : Sl} {an : Nat} {y : Cel} {cls no at' gen : Int} (u : InUse S x an y cls no at' gen) (ho : S.closed = false) (hg : 1 ≤ gen) : valE S cls no at' gen = 0 := by
  obtain ⟨h1, h2, h3, h4, _⟩ := u.lt m
  unfold valE
  rw [if_neg (by rw [ho]; decide), u.no]
  simp only
  rw [if_pos ⟨⟨by have := u.cls; omega, by have := u.cls; omega⟩, u.cls.symm, ⟨by have := u.at'; omega, by have := u.at'; omega⟩, hg⟩]
  have e : at'.toNat = an := by have := u.at'; omega
  rw [e, u.cel]
  simp only
  rw [if_neg (by have := u.gen; omega), if_neg (by rw [u.used]; decide)]
theorem valE_open {S : CaSt} {cls no at' gen : Int} (h : valE S cls no at' gen = 0) : S.closed = false ∧ 1 ≤ gen := by
  unfold valE at h
  split at h
  · cases h
  · next ho =>
    refine ⟨by simpa using ho, ?_⟩
    split at h
    · cases h
    · split at h
      · next hc => exact hc.2.2.2
      · cases h
theorem slab_put {S : CaSt} {x z : Sl} (hx : x ∈ S.sl) (h : x.no ≠ z.no) : x ∈ (S.put z).sl := List.mem_map.2 ⟨x, hx, by rw [if_neg h]⟩
theorem AlIn.mem {S S1 : CaSt} {cls n n1 : Nat} (h : AlIn S cls n S1 n1) {x : Sl} (hx : x ∈ S.sl) : x ∈ S1.sl ∧ S1.classes = S.classes ∧ S1.closed = S.closed ∧ S1.slots = S.slots := by
  rcases h with ⟨rfl, _⟩ | ⟨_, _, p, g, q, rfl⟩
  · exact ⟨hx, rfl, rfl, rfl⟩
  · exact ⟨List.mem_append_left _ hx, rfl, rfl, rfl⟩

/-- The cache after a Resize that stays; after one that moves. -/
def RsStay (S : CaSt) (x : Sl) (an : Nat) (y : Cel) (k : Nat) : CaSt := S.put { x with cs := fill 0 x.cs (an * clsN S.classes x.cls + min y.len k) (clsN S.classes x.cls - min y.len k), cl := x.cl.set an ⟨y.gen, k, true⟩ }
def octOf (S : CaSt) (x : Sl) (an n : Nat) : List Int := (x.cs.drop (an * clsN S.classes x.cls)).take n
def RsMove (S S1 : CaSt) (x : Sl) (an : Nat) (y : Cel) (x1 : Sl) (i : Nat) (y1 : Cel) (k : Nat) : CaSt :=
  (S1.put { x1 with cs := splice (fill 0 x1.cs (i * clsN S1.classes x1.cls) (clsN S1.classes x1.cls)) (i * clsN S1.classes x1.cls) (octOf S x an (min y.len k)), cl := x1.cl.set i ⟨y1.gen, k, true⟩ }).put { x with cl := x.cl.set an ⟨y.gen + 1, 0, false⟩ }
def RsPost (w : World) (c bp : Nat) (S : CaSt) (vc vs : Value) (F G : Nat → Prop) (M n : Nat) (x : Sl) (an : Nat) (y : Cel) (k : Int) : Ending → World → Prop := fun e w' =>
  (∃ er : Int, er ≠ 0 ∧ e = .returned (.tuple #[.agg #[.int .i64 0, .int .i64 0, .int .i64 0, .int .i64 0], .int .i64 er]) ∧ ∃ G' b', CB w' c bp S vc vs F G' M n b' ∧ (∀ k, G' k → G k ∨ w.heap.size ≤ k) ∧ Touch G w w') ∨
  (clsE S k = 0 ∧ clsIdx S.classes k = x.cls ∧ e = .returned (.tuple #[.agg #[.int .i64 (x.cls : Int), .int .i64 (x.no : Int), .int .i64 (an : Int), .int .i64 (y.gen : Int)], .int .i64 0]) ∧
    ∃ b', CB w' c bp (RsStay S x an y k.toNat) vc vs F G M n b' ∧ Touch (fun k => F k ∨ G k) w w') ∨
  (clsE S k = 0 ∧ clsIdx S.classes k ≠ x.cls ∧ ∃ S1 n1 x1 i y1 vs' F' G' b', AlIn S (clsIdx S.classes k) n S1 n1 ∧ freeOf S1.sl (clsIdx S.classes k) = some (x1, i, y1) ∧ e = .returned (.tuple #[.agg #[.int .i64 (clsIdx S.classes k : Nat), .int .i64 (x1.no : Int), .int .i64 (i : Int), .int .i64 (y1.gen : Int)], .int .i64 0]) ∧
    CB w' c bp (RsMove S S1 x an y x1 i y1 k.toNat) vc vs' F' G' M n1 b' ∧ (∀ k, F' k → F k ∨ w.heap.size ≤ k) ∧ (∀ k, G' k → G k ∨ w.heap.size ≤ k) ∧ Touch (fun k => F k ∨ G k) w w')

set_option maxHeartbeats 4000000 in
set_option maxRecDepth 100000 in
theorem resizeS_any {w : World} {c bp : Nat} {S : CaSt} {vc vs : Value} {F G : Nat → Prop} {M n : Nat} {b : BookSt} (h : CB w c bp S vc vs F G M n b) {x : Sl} {an : Nat} {y : Cel} {cls no at' gen : Int} (u : InUse S x an y cls no at' gen) (hE : valE S cls no at' gen = 0) (k : Int) (hlast : S.last < 1000000000) (hgen : y.gen < 1000000000) :
    Calls Try.prog 15 #[.pointer (some ⟨c, 0, none⟩), .agg #[.int .i64 cls, .int .i64 no, .int .i64 at', .int .i64 gen], .int .i64 k] w (RsPost w c bp S vc vs F G M n x an y k) := by
  obtain ⟨hxm, h2, h3, h4, h5, h6, h7, h8⟩ := u.lt h.cm
  obtain rfl := u.cls
  obtain rfl := u.at'
  have hge := u.gen
  subst hge
  subst h4
  have B0 : Below w.heap.size w (w.alloc (.cells #[.int .i64 (x.cls : Int), .int .i64 (x.no : Int), .int .i64 (an : Int), .int .i64 (y.gen : Int)] 37)) := (Below.refl _ w).alloc (Nat.le_refl _) _
  have RS0 := heap_alloc_new w (.cells #[.int .i64 (x.cls : Int), .int .i64 (x.no : Int), .int .i64 (an : Int), .int .i64 (y.gen : Int)] 37)
  have HB := Lib.hid h
  have HU := Lib.hid u
  have HE := Lib.hid hE
  obtain ⟨old, hold⟩ : ∃ old, y.len = old := ⟨_, rfl⟩
  have HOLD := Lib.hid hold
  have hbn : old ≤ 4096 := by omega
  have HX := Lib.hid (And.intro hxm (And.intro h2 (And.intro h5 (And.intro h6 h8))))
  clear h u hE hxm h2 h3 h5 h6 h7 h8 hold
  go_enter Try.func15, Try.ntmps15
  go_upto_region 1 with fail
  have R4 : ((w.alloc (.cells #[.int .i64 (x.cls : Int), .int .i64 (x.no : Int), .int .i64 (an : Int), .int .i64 (y.gen : Int)] 37)).alloc (.cells #[.int .i64 0, .int .i64 0, .int .i64 0, .int .i64 0] 37)).heap[w.heap.size]? = some (.cells #[.int .i64 (x.cls : Int), .int .i64 (x.no : Int), .int .i64 (an : Int), .int .i64 (y.gen : Int)] 37 (0, 0)) := ((Below.refl _ _).alloc (Nat.le_refl _) _).block _ (lt_of RS0) |>.trans RS0
  have R6 := heap_alloc_new (w.alloc (.cells #[.int .i64 (x.cls : Int), .int .i64 (x.no : Int), .int .i64 (an : Int), .int .i64 (y.gen : Int)] 37)) (.cells #[.int .i64 0, .int .i64 0, .int .i64 0, .int .i64 0] 37)
  have hs1 : (w.alloc (.cells #[.int .i64 (x.cls : Int), .int .i64 (x.no : Int), .int .i64 (an : Int), .int .i64 (y.gen : Int)] 37)).heap.size = w.heap.size + 1 := Array.size_push _
  rw [hs1] at R6
  have B1 := B0.alloc B0.size (.cells #[.int .i64 0, .int .i64 0, .int .i64 0, .int .i64 0] 37)
  clear B0 RS0 hs1
  generalize ((w.alloc (.cells #[.int .i64 (x.cls : Int), .int .i64 (x.no : Int), .int .i64 (an : Int), .int .i64 (y.gen : Int)] 37)).alloc (.cells #[.int .i64 0, .int .i64 0, .int .i64 0, .int .i64 0] 37)) = W1 at *
  obtain ⟨r, hr⟩ : ∃ r, w.heap.size = r := ⟨_, rfl⟩
  rw [hr] at R4 R6 ⊢
  have HRR := Lib.hid hr
  have LE := Lib.hid (lenS_ok (HB.out.cm.below B1) HU.out HE.out)
  rw [HOLD.out] at LE
  obtain ⟨b0, b1, b2, b3⟩ := cells4 R4
  have HR4 := Lib.hid R4
  have HR6 := Lib.hid R6
  have HB1 := Lib.hid B1
  clear hr R4 R6 B1
  go_wp2_with fail
  refine LE.out.mono ?_
  rintro e w2 ⟨rfl, hb2⟩
  have B2 := Lib.hid (HB1.out.trans (hb2.mono HB1.out.size))
  have R4 := Lib.hid ((hb2.block _ (lt_of HR4.out)).trans HR4.out)
  have R6 := Lib.hid ((hb2.block _ (lt_of HR6.out)).trans HR6.out)
  clear hb2 HB1 HR4 HR6 LE b0 b1 b2 b3
  have CF := Lib.hid (classFor_any (HB.out.cm.below B2.out) k)
  have hrw : w.heap.size ≤ r := by rw [HRR.out]; exact Nat.le_refl _
  have hrw1 : w.heap.size ≤ r + 1 := by omega
  obtain ⟨q0, q1, q2, q3⟩ := cells4 R6.out
  have f0 := free_of R6.out 0
  have f1 := free_of R6.out 1
  have f2 := free_of R6.out 2
  have f3 := free_of R6.out 3
  by_cases hC : clsE S k = 0
  case neg =>
    have hE1 : (clsE S k != 0) = true := bne_iff_ne.2 hC
    have hE2 : (clsE S k == 0) = false := by simpa using hC
    have HEE := Lib.hid hC
    generalize clsV S k = V at *
    generalize clsE S k = E at *
    clear hC
    go_wp2_with fail
    refine CF.out.mono ?_
    rintro e w3 ⟨rfl, hw⟩
    obtain rfl := hw.symm
    clear hw
    go_wp2_with fail
    (try simp only [Exit.inBlock, Exit.then])
    obtain ⟨p0, p1, p2, p3⟩ := cells4 (res4 (a := .int .i64 0) (b := .int .i64 0) (c := .int .i64 0) (d := .int .i64 0) R6.out)
    refine bodyPost_ret (v := .tuple #[.agg #[.int .i64 0, .int .i64 0, .int .i64 0, .int .i64 0], .int .i64 E]) ?_ rfl (Or.inl ⟨E, HEE.out, rfl, G, b, ?_, fun k hk => Or.inl hk, ?_⟩)
    · rw [results_cell_tmp rfl]
      go_simp
    · exact HB.out.below ((((B2.out.setCell (p := ⟨r + 1, 0, none⟩) hrw1 _).setCell (p := ⟨r + 1, 1, none⟩) hrw1 _).setCell (p := ⟨r + 1, 2, none⟩) hrw1 _).setCell (p := ⟨r + 1, 3, none⟩) hrw1 _)
    · exact Touch.of_below ((((B2.out.setCell (p := ⟨r + 1, 0, none⟩) hrw1 _).setCell (p := ⟨r + 1, 1, none⟩) hrw1 _).setCell (p := ⟨r + 1, 2, none⟩) hrw1 _).setCell (p := ⟨r + 1, 3, none⟩) hrw1 _)
  case pos =>
  have hV : clsV S k = ((clsIdx S.classes k : Nat) : Int) := by unfold clsV; rw [if_pos hC]
  obtain ⟨hcl, h0k⟩ : clsIdx S.classes k < S.classes.length ∧ 0 ≤ k := by
    have h1 := clsIdx_le S.classes k
    have hC2 := hC
    unfold clsE at hC2
    split at hC2
    · cases hC2
    · split at hC2
      · cases hC2
      · split at hC2
        · cases hC2
        · omega
  have hcn := clsIdx_get hcl
  rw [hV, hC] at CF
  have HEE := Lib.hid hC
  obtain ⟨kn, rfl⟩ : ∃ kn : Nat, k = kn := ⟨k.toNat, by omega⟩
  obtain ⟨nc, hnc⟩ : ∃ nc, clsIdx S.classes (kn : Int) = nc := ⟨_, rfl⟩
  have HNC := Lib.hid hnc
  rw [hnc] at CF hcl hcn
  have HCL := Lib.hid (And.intro hcl hcn)
  have hk64 : kn ≤ 4096 := by
    have := (clsErr_all HB.out.cm.cok).2.2.1 nc hcl
    omega
  clear hV hC hnc hcn
  by_cases hsame : nc = x.cls
  · subst hsame
    have OC := Lib.hid (octetsS_any (HB.out.cm.below B2.out) HU.out)
    obtain ⟨sz, hsz⟩ : ∃ sz, clsN S.classes x.cls = sz := ⟨_, rfl⟩
    rw [hsz] at OC
    have hksz : kn ≤ sz := by
      have := HCL.out.2
      have h2 := (clsErr_all HB.out.cm.cok).2.2.1 x.cls hcl
      rw [← hsz]
      unfold clsN
      omega
    have hosz : old ≤ sz := by rw [← hsz, ← HOLD.out]; exact HX.out.2.2.2.2
    have hsz4 : sz ≤ 4096 := by rw [← hsz]; exact HX.out.2.2.2.1
    have HSZ := Lib.hid hsz
    obtain ⟨A, hA⟩ : ∃ A, an * sz = A := ⟨_, rfl⟩
    have HA := Lib.hid hA
    rw [hA] at OC
    clear hsz hA
    obtain ⟨b0, b1, b2, b3⟩ := cells4 R4.out
    go_wp2_with fail
    refine CF.out.mono ?_
    rintro e w3 ⟨rfl, hw⟩
    obtain rfl := hw.symm
    clear hw CF
    go_upto_region 8 with fail
    obtain ⟨m, hm⟩ : ∃ m, min old kn = m := ⟨_, rfl⟩
    go_cut [36, 37, 38, 39, 40, 41, 42] (fun _ _ _ _ _ _ _ wx => CaMem wx F c bp (S.put { x with cs := fill 0 x.cs (A + m) (sz - m) }) vc vs ∧ Touch F w wx ∧ wx.heap[r]? = some (.cells #[.int .i64 (x.cls : Int), .int .i64 (x.no : Int), .int .i64 (an : Int), .int .i64 (y.gen : Int)] 37 (0, 0)) ∧ wx.heap[r + 1]? = some (.cells #[.int .i64 0, .int .i64 0, .int .i64 0, .int .i64 0] 37 (0, 0)))
    case first =>
      go_wp2_with fail
      refine OC.out.mono ?_
      rintro e w3 ⟨rfl, hb3⟩
      have B3 := Lib.hid (B2.out.trans (hb3.mono B2.out.size))
      have R4' := Lib.hid ((hb3.block _ (lt_of R4.out)).trans R4.out)
      have R6' := Lib.hid ((hb3.block _ (lt_of R6.out)).trans R6.out)
      clear hb3 OC
      have hmin : min (old : Int) (kn : Int) = (m : Int) := by omega
      have hml : m ≤ sz := by omega
      have M3 := HB.out.cm.below B3.out
      have mx3 := M3.sl x HX.out.1
      have hAl : A + sz ≤ x.cs.length := by
        rw [mx3.ol]
        have h1 := HX.out.2.1
        show A + sz ≤ S.slots * clsN S.classes x.cls
        rw [HSZ.out, ← HA.out, ← Nat.succ_mul]
        exact Nat.mul_le_mul_right _ h1
      have MM := Lib.hid hm
      obtain ⟨w4, CLR, hr4, ht4⟩ := clear_fact w3 x.g (A + m) (sz - m) (sz - m) (if m = sz then some ⟨x.g, A, none⟩ else some ⟨x.g, A + m, none⟩) x.cs mx3.oct (by omega) (fun h => by rw [if_neg (by omega)])
      have FIN : Hid (CaMem w4 F c bp (S.put { x with cs := fill 0 x.cs (A + m) (sz - m) }) vc vs ∧ Touch F w w4 ∧ w4.heap[r]? = some (.cells #[.int .i64 (x.cls : Int), .int .i64 (x.no : Int), .int .i64 (an : Int), .int .i64 (y.gen : Int)] 37 (0, 0)) ∧ w4.heap[r + 1]? = some (.cells #[.int .i64 0, .int .i64 0, .int .i64 0, .int .i64 0] 37 (0, 0))) := Lib.hid (by
        have hgl := HB.out.fl x.g mx3.fg
        refine ⟨M3.octs HX.out.1 hr4 (fill_len 0 (sz - m) _ _) (fill_bytes mx3.ob (by omega)) ht4, (Touch.of_below B3.out).then (ht4.mono (G := F) (fun j hj => hj ▸ mx3.fg)), ?_, ?_⟩
        · exact (ht4.block r (lt_of R4'.out) (by omega)).trans R4'.out
        · exact (ht4.block (r + 1) (lt_of R6'.out) (by omega)).trans R6'.out)
      clear hm M3 mx3 hr4 ht4 hAl
      by_cases hz : m = sz
      · rw [if_pos hz] at CLR
        have hz0 : sz - m = 0 := by omega
        rw [hz0] at CLR
        have e1 : sz - sz = 0 := by omega
        go_wp2_with fail
        go_meet
        exact FIN.out
      · rw [if_neg hz] at CLR
        go_wp2_with fail
        go_meet
        exact FIN.out
    case rest =>
      obtain ⟨hM, hT, h4, h6⟩ := hcut
      rename_i wc _
      generalize wc = w4 at *
      have hA1 : x.cs.length = S.room x.cls := (HB.out.cm.sl x HX.out.1).ol
      obtain ⟨x1, hx1⟩ : ∃ x1 : Sl, { x with cs := fill 0 x.cs (A + m) (sz - m) } = x1 := ⟨_, rfl⟩
      have e_no : x1.no = x.no := by rw [← hx1]
      have e_cls : x1.cls = x.cls := by rw [← hx1]
      have e_q : x1.q = x.q := by rw [← hx1]
      have e_cl : x1.cl = x.cl := by rw [← hx1]
      rw [hx1] at hM
      have hin1 : x1 ∈ (S.put x1).sl := put_in HX.out.1 e_no
      have IU : InUse (S.put x1) x1 an y (x.cls : Int) (x.no : Int) (an : Int) (y.gen : Int) := ⟨by rw [e_cls], by rw [← e_no]; exact slabOf_at hM.nos hin1, rfl, by rw [e_cl]; exact HU.out.cel, rfl, HU.out.used⟩
      have CE := Lib.hid (cell_any hM IU)
      have HM := Lib.hid hM
      have HT := Lib.hid hT
      have X1 := Lib.hid hx1
      have EE := Lib.hid (And.intro hin1 (And.intro e_no (And.intro e_cls (And.intro e_q e_cl))))
      have H4 := Lib.hid h4
      have H6 := Lib.hid h6
      have MH := Lib.hid hm
      obtain ⟨b0, b1, b2, b3⟩ := cells4 h4
      clear hM hT h4 h6 hx1 hin1 e_no e_cls e_q e_cl IU OC R4 R6 B2 hA1 hm
      go_wp2_with fail
      refine CE.out.mono ?_
      rintro e w5 ⟨rfl, hb5⟩
      have M5 := HM.out.below hb5
      have mx5 := M5.sl x1 EE.out.1
      have hcel := HU.out.cel
      rw [← EE.out.2.2.2.2] at hcel
      obtain ⟨d0, d1, d2⟩ := mx5.cell hcel
      have f1' := free_of mx5.cel (an * 3 + 1)
      have LN := Lib.hid (M5.lent EE.out.1 hcel HU.out.used kn (by show kn ≤ clsN S.classes x1.cls; rw [EE.out.2.2.1, HSZ.out]; exact hksz))
      have P4 := Lib.hid ((hb5.block _ (lt_of H4.out)).trans H4.out)
      have P6 := Lib.hid ((hb5.block _ (lt_of H6.out)).trans H6.out)
      have hql : x1.q < w.heap.size := by rw [EE.out.2.2.2.1]; exact HB.out.fl x.q (HB.out.cm.sl x HX.out.1).fq
      have hfq : F x1.q := by rw [EE.out.2.2.2.1]; exact (HB.out.cm.sl x HX.out.1).fq
      have T5 := Lib.hid (HT.out.then (Touch.of_below hb5))
      clear CE hb5 M5 mx5 b0 b1 b2 b3 H4 H6 hcel
      go_upto_region 10 with fail
      generalize w5.setCell ⟨x1.q, an * 3 + 1, none⟩ (.int .i64 (kn : Int)) = w6 at *
      have P4' := Lib.hid ((LN.out.2.block r (lt_of P4.out) (by omega)).trans P4.out)
      have P6' := Lib.hid ((LN.out.2.block (r + 1) (lt_of P6.out) (by omega)).trans P6.out)
      have T6 := Lib.hid (T5.out.then (LN.out.2.mono (G := F) (fun j hj => hj ▸ hfq)))
      clear P4 P6 d0 d1 d2 f1' q0 q1 q2 q3 f0 f1 f2 f3
      obtain ⟨u0, u1, u2, u3⟩ := cells4 P4'.out
      obtain ⟨q0, q1, q2, q3⟩ := cells4 P6'.out
      have f0 := free_of P6'.out 0
      have f1 := free_of P6'.out 1
      have f2 := free_of P6'.out 2
      have f3 := free_of P6'.out 3
      go_wp2_with fail
      (try simp only [Exit.inBlock, Exit.then])
      obtain ⟨p0, p1, p2, p3⟩ := cells4 (res4 (a := .int .i64 (x.cls : Int)) (b := .int .i64 (x.no : Int)) (c := .int .i64 (an : Int)) (d := .int .i64 (y.gen : Int)) P6'.out)
      have tF := touch4 (w := w6) (r + 1) (.int .i64 (x.cls : Int)) (.int .i64 (x.no : Int)) (.int .i64 (an : Int)) (.int .i64 (y.gen : Int))
      have hSt : RsStay S x an y kn = (S.put x1).put { x1 with cl := x1.cl.set an ⟨y.gen, kn, true⟩ } := by
        refine Eq.trans ?_ (put_put S x1 { x1 with cl := x1.cl.set an ⟨y.gen, kn, true⟩ } rfl).symm
        unfold RsStay
        rw [HOLD.out, HSZ.out, HA.out, MH.out, ← X1.out]

      refine bodyPost_ret (v := .tuple #[.agg #[.int .i64 (x.cls : Int), .int .i64 (x.no : Int), .int .i64 (an : Int), .int .i64 (y.gen : Int)], .int .i64 0]) ?_ rfl ?_
      · rw [results_cell_tmp rfl]
        go_simp
      unfold RsPost
      refine Or.inr (Or.inl ⟨HEE.out, HNC.out, rfl, b, ?_, ?_⟩)
      · rw [Int.toNat_natCast, hSt]
        exact ⟨LN.out.1.same (fun j hj hl => tF.block j hl (fun e => by have := HB.out.fl j hj; omega)), (HB.out.bk.touch T6.out HB.out.dis).touch tF (fun j hj hg => by have := HB.out.bk.gl j hg; omega), HB.out.dis, fun j hj => Nat.lt_of_lt_of_le (Nat.lt_of_lt_of_le (HB.out.fl j hj) T6.out.size) tF.size⟩
      · exact (T6.out.mono (fun j hj => Or.inl hj)).trans tF (fun j hj => Or.inr (by omega))
  · have hne2 : ¬ (nc : Int) = (x.cls : Int) := by omega
    have AL := Lib.hid (alloc_any (HB.out.below B2.out) (kn : Int) hlast)
    obtain ⟨b0, b1, b2, b3⟩ := cells4 R4.out
    go_wp2_with fail
    refine CF.out.mono ?_
    rintro e w3 ⟨rfl, hw⟩
    obtain rfl := hw.symm
    clear hw CF
    clear b1 b2 b3
    go_wp2_with fail
    refine AL.out.mono ?_
    rintro e w3 (⟨er, her, rfl, G', b', hcb, hg, ht⟩ | ⟨hc0, S1, n1, x1, i, y1, vs', F', G', b', hin, hfo, rfl, hcb, hF, hG, hT⟩)
    · clear AL b0
      have hnG : ∀ j, w.heap.size ≤ j → ¬ G j := fun j hj hg => by have := HB.out.bk.gl j hg; omega
      have R6' := Lib.hid ((ht.block (r + 1) (lt_of R6.out) (hnG _ hrw1)).trans R6.out)
      have C3 := Lib.hid hcb
      have GT := Lib.hid (And.intro hg ht)
      clear hcb hg ht q0 q1 q2 q3 f0 f1 f2 f3
      have hE1 : (er != 0) = true := bne_iff_ne.2 her
      have hE2 : (er == 0) = false := by simpa using her
      have HER := Lib.hid her
      clear her
      go_upto_region 12 with fail
      have A4 : Below w3.heap.size w3 (w3.alloc (.cells #[.int .i64 0, .int .i64 0, .int .i64 0, .int .i64 0] 37)) := (Below.refl _ _).alloc (Nat.le_refl _) _
      have Q6 := Lib.hid ((A4.block _ (lt_of R6'.out)).trans R6'.out)
      have C4 := Lib.hid (C3.out.below A4)
      have T4 := Lib.hid (((Touch.of_below B2.out).trans GT.out.2 (fun j hj => Or.inl hj)).then (Touch.of_below A4))
      generalize w3.alloc (.cells #[.int .i64 0, .int .i64 0, .int .i64 0, .int .i64 0] 37) = w4 at *
      clear A4
      obtain ⟨q0, q1, q2, q3⟩ := cells4 Q6.out
      have f0 := free_of Q6.out 0
      have f1 := free_of Q6.out 1
      have f2 := free_of Q6.out 2
      have f3 := free_of Q6.out 3
      go_wp2_with fail
      (try simp only [Exit.inBlock, Exit.then])
      obtain ⟨p0, p1, p2, p3⟩ := cells4 (res4 (a := .int .i64 0) (b := .int .i64 0) (c := .int .i64 0) (d := .int .i64 0) Q6.out)
      have tF := touch4 (w := w4) (r + 1) (.int .i64 0) (.int .i64 0) (.int .i64 0) (.int .i64 0)
      refine bodyPost_ret (v := .tuple #[.agg #[.int .i64 0, .int .i64 0, .int .i64 0, .int .i64 0], .int .i64 er]) ?_ rfl ?_
      · rw [results_cell_tmp rfl]
        go_simp
      unfold RsPost
      refine Or.inl ⟨er, HER.out, rfl, G', b', ?_, ?_, ?_⟩
      · have sz := B2.out.size
        refine C4.out.touch tF (fun j hj hf => by have := HB.out.fl j hf; omega) (fun j hj hg => ?_)
        rcases GT.out.1 j hg with e | e
        · exact hnG j (by omega) e
        · have := lt_of R6.out
          omega
      · exact fun j hj => by
          rcases GT.out.1 j hj with e | e
          · exact Or.inl e
          · exact Or.inr (Nat.le_trans B2.out.size e)
      · exact T4.out.trans tF (fun j hj => Or.inr (by omega))
    · clear AL b0
      have hcls1 := hin.mem HX.out.1
      rw [Int.toNat_natCast] at hcb
      rw [HNC.out] at hfo hin
      obtain ⟨hxn, hxc, hfi⟩ := freeOf_some hfo
      obtain ⟨hy1, hyu⟩ := freeIdx_at hfi
      have hxx : x.no ≠ x1.no := fun e => hsame (by
        have nos1 : (S1.sl.map Sl.no).Pairwise (· < ·) := by
          have := hcb.cm.nos
          have e2 : ((AlS S1 x1 i y1 kn).sl.map Sl.no) = S1.sl.map Sl.no := by
            unfold AlS CaSt.put
            simp only [List.map_map]
            refine List.map_congr_left (fun z hz => ?_)
            simp only [Function.comp]
            split
            · next h => exact h.symm
            · rfl
          rwa [e2] at this
        have h1 := slabOf_at nos1 hxn
        have h2 := slabOf_at nos1 hcls1.1
        rw [← e, h2] at h1
        rw [← hxc, ← Option.some.inj h1])
      obtain ⟨ax, hax⟩ : ∃ ax : Sl, { x1 with cs := fill 0 x1.cs (i * clsN S1.classes x1.cls) (clsN S1.classes x1.cls), cl := x1.cl.set i ⟨y1.gen, kn, true⟩ } = ax := ⟨_, rfl⟩
      have e_no : ax.no = x1.no := by rw [← hax]
      have e_cls : ax.cls = nc := by rw [← hax]; exact hxc
      have hS3 : AlS S1 x1 i y1 kn = S1.put ax := by rw [← hax]; rfl
      rw [hS3] at hcb
      have hinA : ax ∈ (S1.put ax).sl := put_in hxn e_no
      have hinX : x ∈ (S1.put ax).sl := slab_put hcls1.1 (by rw [e_no]; exact hxx)
      have hil : i < x1.cl.length := (List.getElem?_eq_some_iff.1 hy1).1
      have IUA : InUse (S1.put ax) ax i ⟨y1.gen, kn, true⟩ (nc : Int) (x1.no : Int) (i : Int) (y1.gen : Int) := ⟨by rw [e_cls], by rw [← e_no]; exact slabOf_at hcb.cm.nos hinA, rfl, by rw [← hax]; simp [hil], rfl, rfl⟩
      have IUX : InUse (S1.put ax) x an y (x.cls : Int) (x.no : Int) (an : Int) (y.gen : Int) := ⟨rfl, slabOf_at hcb.cm.nos hinX, rfl, HU.out.cel, rfl, HU.out.used⟩
      have rF' : ∀ j, w.heap.size ≤ j → j < w2.heap.size → ¬ (F j ∨ G j) := fun j h1 h2 hj => by
        rcases hj with e | e
        · have := HB.out.fl j e; omega
        · have := HB.out.bk.gl j e; omega
      have l4 := lt_of R4.out
      have l6 := lt_of R6.out
      have P4 := Lib.hid ((hT.block r l4 (rF' r hrw l4)).trans R4.out)
      have P6 := Lib.hid ((hT.block (r + 1) l6 (rF' _ hrw1 l6)).trans R6.out)
      have HC := Lib.hid hcb
      have HT := Lib.hid (And.intro hF (And.intro hG hT))
      have HI := Lib.hid (And.intro hin (And.intro hfo hcls1))
      have HIN := Lib.hid (And.intro hinA (And.intro hinX (And.intro e_no (And.intro e_cls hxx))))
      have IU := Lib.hid (And.intro IUA IUX)
      have HAX := Lib.hid hax
      clear hcb hF hG hT hin hfo hcls1 hinA hinX e_no e_cls hxx IUA IUX hax hS3 hxn hxc hfi hy1 hyu hil hc0 q0 q1 q2 q3 f0 f1 f2 f3
      rw [HNC.out]
      go_upto_region 12 with fail
      have A4 : Below w3.heap.size w3 (w3.alloc (.cells #[.int .i64 (nc : Int), .int .i64 (x1.no : Int), .int .i64 (i : Int), .int .i64 (y1.gen : Int)] 37)) := (Below.refl _ _).alloc (Nat.le_refl _) _
      have R11 := heap_alloc_new w3 (.cells #[.int .i64 (nc : Int), .int .i64 (x1.no : Int), .int .i64 (i : Int), .int .i64 (y1.gen : Int)] 37)
      have hs3 : w2.heap.size ≤ w3.heap.size := HT.out.2.2.size
      obtain ⟨r2, hr2⟩ : ∃ r2, w3.heap.size = r2 := ⟨_, rfl⟩
      rw [hr2] at R11 ⊢
      have C4 := Lib.hid (HC.out.below A4)
      have H4 := Lib.hid ((A4.block _ (lt_of P4.out)).trans P4.out)
      have H6 := Lib.hid ((A4.block _ (lt_of P6.out)).trans P6.out)
      have T4 := Lib.hid (((Touch.of_below B2.out).trans HT.out.2.2 (fun j hj => Or.inl hj)).then (Touch.of_below A4))
      have H11 := Lib.hid R11
      have A4h := Lib.hid A4
      have HR2 := Lib.hid hr2
      generalize w3.alloc (.cells #[.int .i64 (nc : Int), .int .i64 (x1.no : Int), .int .i64 (i : Int), .int .i64 (y1.gen : Int)] 37) = w4 at *
      have OA := Lib.hid (fun W (hW : Below w4.heap.size w4 W) => octetsS_any (C4.out.cm.below hW) IU.out.1)
      have OX := Lib.hid (fun W (hW : Below w4.heap.size w4 W) => octetsS_any (C4.out.cm.below hW) IU.out.2)
      have hcl1 : S1.classes = S.classes := HI.out.2.2.2.1
      have eA : clsN (S1.put ax).classes ax.cls = clsN S.classes nc := by rw [HIN.out.2.2.2.1]; show clsN S1.classes nc = _; rw [hcl1]
      have eX : clsN (S1.put ax).classes x.cls = clsN S.classes x.cls := by show clsN S1.classes x.cls = _; rw [hcl1]
      rw [eA] at OA
      rw [eX] at OX
      obtain ⟨sz, hsz⟩ : ∃ sz, clsN S.classes x.cls = sz := ⟨_, rfl⟩
      obtain ⟨sz1, hsz1⟩ : ∃ sz1, clsN S.classes nc = sz1 := ⟨_, rfl⟩
      rw [hsz1] at OA
      rw [hsz] at OX
      obtain ⟨A, hA⟩ : ∃ A, an * sz = A := ⟨_, rfl⟩
      obtain ⟨A1, hA1⟩ : ∃ A1, i * sz1 = A1 := ⟨_, rfl⟩
      rw [hA1] at OA
      rw [hA] at OX
      have hknz : kn ≤ sz1 := by
        have := HCL.out.2
        have h2 := (clsErr_all HB.out.cm.cok).2.2.1 nc hcl
        rw [← hsz1]
        unfold clsN
        omega
      have hosz : old ≤ sz := by rw [← hsz, ← HOLD.out]; exact HX.out.2.2.2.2
      have hsz4 : sz ≤ 4096 := by rw [← hsz]; exact HX.out.2.2.2.1
      have HEQ := Lib.hid (And.intro hsz (And.intro hsz1 (And.intro hA (And.intro hA1 (And.intro hcl1 (And.intro eA eX))))))
      obtain ⟨m, hm⟩ : ∃ m, min old kn = m := ⟨_, rfl⟩
      have hmin : min (old : Int) (kn : Int) = (m : Int) := by omega
      have hml : m ≤ sz := by omega
      have HM := Lib.hid hm
      have hmk : m ≤ sz1 := by omega
      clear A4 R11 hr2 hcl1 eA eX hsz hsz1 hA hA1 hm
      have CPY : Hid (∀ W, BelW w4 W → ∃ w', (Builtin.copy_ #[33, 33] 3 #[.slice (some ⟨ax.g, A1, none⟩) sz1 sz1, .slice (some ⟨x.g, A, none⟩) m sz]).run Try.prog W = .ok (.int .i64 m) w' ∧ byteRow w' ax.g (splice ax.cs A1 ((x.cs.drop A).take m)) ∧ Touch (fun k => k = ax.g) W w') := Lib.hid (fun W hW => by
        have mW := C4.out.cm.below hW
        have ma := mW.sl ax HIN.out.1
        have mx := mW.sl x HIN.out.2.1
        have la := (IU.out.1.lt mW)
        have lx := (IU.out.2.lt mW)
        have hXl : A + sz ≤ x.cs.length := by
          rw [mx.ol]
          show A + sz ≤ (S1.put ax).slots * clsN (S1.put ax).classes x.cls
          rw [HEQ.out.2.2.2.2.2.2, HEQ.out.1, ← HEQ.out.2.2.1, ← Nat.succ_mul]
          exact Nat.mul_le_mul_right _ lx.2.1
        have hAl : A1 + sz1 ≤ ax.cs.length := by
          rw [ma.ol]
          show A1 + sz1 ≤ (S1.put ax).slots * clsN (S1.put ax).classes ax.cls
          rw [HEQ.out.2.2.2.2.2.1, HEQ.out.2.1, ← HEQ.out.2.2.2.1, ← Nat.succ_mul]
          exact Nat.mul_le_mul_right _ la.2.1
        have hml2 : ((x.cs.drop A).take m).length = m := by rw [List.length_take, List.length_drop]; omega
        refine copy_at_fact W ax.g A1 sz1 (some ⟨x.g, A, none⟩) m sz ax.cs ((x.cs.drop A).take m) ma.oct hml2 hmk (fun _ => ⟨_, rfl, fun j v hj => ?_⟩) (by omega)
        have hjm : j < m := by have := (List.getElem?_eq_some_iff.1 hj).1; omega
        rw [List.getElem?_take_of_lt hjm, List.getElem?_drop] at hj
        have hw : W.cell? ⟨x.g, A + j, none⟩ = some (.int .u8 v) := by rw [cell_of mx.oct]; simp [hj]
        have ead : (⟨x.g, A, none⟩ : Addr).add j = ⟨x.g, A + j, none⟩ := by simp [Addr.add]
        rw [ead]
        exact hw)
      go_upto_region 14 with fail
      go_cut [60, 61, 62, 63, 64, 65, 66, 67, 68, 69, 70] (fun _ _ _ _ _ _ _ _ _ _ _ wx => ∃ wy, Below w4.heap.size w4 wy ∧ byteRow wx ax.g (splice ax.cs A1 ((x.cs.drop A).take m)) ∧ Touch (fun k => k = ax.g) wy wx)
      case first =>
        have S0 : BelW w4 w4.drew := (Below.refl _ w4).drew
        obtain ⟨a0, a1, a2, a3⟩ := cells4 H11.out
        obtain ⟨b0, b1, b2, b3⟩ := cells4 H4.out
        have r0 : ∀ y : WIn (BelW w4), y.w.cell? ⟨r2, 0, none⟩ = some (.int .i64 (nc : Int)) := fun y => old_cell y.h a0
        have r1 : ∀ y : WIn (BelW w4), y.w.cell? ⟨r2, 1, none⟩ = some (.int .i64 (x1.no : Int)) := fun y => old_cell y.h a1
        have r2' : ∀ y : WIn (BelW w4), y.w.cell? ⟨r2, 2, none⟩ = some (.int .i64 (i : Int)) := fun y => old_cell y.h a2
        have r3 : ∀ y : WIn (BelW w4), y.w.cell? ⟨r2, 3, none⟩ = some (.int .i64 (y1.gen : Int)) := fun y => old_cell y.h a3
        have t0 : ∀ y : WIn (BelW w4), y.w.cell? ⟨r, 0, none⟩ = some (.int .i64 (x.cls : Int)) := fun y => old_cell y.h b0
        have t1 : ∀ y : WIn (BelW w4), y.w.cell? ⟨r, 1, none⟩ = some (.int .i64 (x.no : Int)) := fun y => old_cell y.h b1
        have t2 : ∀ y : WIn (BelW w4), y.w.cell? ⟨r, 2, none⟩ = some (.int .i64 (an : Int)) := fun y => old_cell y.h b2
        have t3 : ∀ z : WIn (BelW w4), z.w.cell? ⟨r, 3, none⟩ = some (.int .i64 (y.gen : Int)) := fun z => old_cell z.h b3
        haveI ne : Nonempty (WIn (BelW w4)) := ⟨⟨w4.drew, S0⟩⟩
        refine wp_normal ?_
        refine wp_region_plan 10 (BelW w4) rfl ?_
        refine wpN_seg [0, 1, 3, 4, 6, 7, 8] (by kernel_rfl) (by kernel_rfl) (by kernel_rfl) (by kernel_rfl) (by decide) (fun _ _ _ _ _ h => h) S0 ?_
        simp only [pick, List.map_cons, List.map_nil, List.getElem?_cons_succ, List.getElem?_cons_zero, Option.getD_some]
        repeat (go_big_quiet_step (fail))
        refine wpQuiet_nil ?_
        clear r0 r1 r2' r3 t0 t1 t2 t3
        refine wpN_one 2 _ (by kernel_rfl) rfl ?_
        refine NextAt.held ?_
        intro K hK
        go_simp
        refine (OA.out w4.drew S0).mono ?_
        rintro e W5 ⟨rfl, hb⟩
        have S5 : BelW w4 W5 := Below.trans (a := w4) S0 (hb.mono (Below.size S0))
        clear hb
        go_simp
        refine hK _ _ S5 ?_
        clear hK K
        refine wpN_one 5 _ (by kernel_rfl) rfl ?_
        refine NextAt.held ?_
        intro K hK
        go_simp
        refine (OX.out W5 S5).mono ?_
        rintro e W6 ⟨rfl, hb⟩
        have S6 : BelW w4 W6 := Below.trans (a := w4) S5 (hb.mono (Below.size S5))
        clear hb
        go_simp
        refine hK _ _ S6 ?_
        clear hK K
        refine wpN_seg [9] (by kernel_rfl) (by kernel_rfl) (by kernel_rfl) (by kernel_rfl) (by decide) (fun _ _ _ _ _ h => h) S6 ?_
        simp only [pick, List.map_cons, List.map_nil, List.getElem?_cons_succ, List.getElem?_cons_zero, Option.getD_some]
        repeat (go_big_quiet_step (fail))
        refine wpQuiet_nil ?_
        obtain ⟨W7, hrun, hr7, ht7⟩ := CPY.out W6 S6
        refine wpN_one 10 _ (by kernel_rfl) rfl ?_
        refine NextAt.free (by kernel_rfl) ?_
        intro K hK
        have FIN : Hid (∃ wy, Below w4.heap.size w4 wy ∧ byteRow W7 ax.g (splice ax.cs A1 ((x.cs.drop A).take m)) ∧ Touch (fun k => k = ax.g) wy W7) := Lib.hid ⟨W6, S6, hr7, ht7⟩
        clear hr7 ht7
        go_simp
        refine hK _ _ ?_
        clear hK K
        refine wpN_done (by kernel_rfl) ?_
        go_wp2_with fail
        go_meet
        exact FIN.out
      case rest =>
      obtain ⟨wy, hby, hr7, ht7⟩ := hcut
      rename_i wc _
      generalize wc = w7 at *
      have mY := C4.out.cm.below hby
      have maY := mY.sl ax HIN.out.1
      have hAl : A1 + sz1 ≤ ax.cs.length := by
        rw [maY.ol]
        have la := (IU.out.1.lt mY)
        show A1 + sz1 ≤ (S1.put ax).slots * clsN (S1.put ax).classes ax.cls
        rw [HEQ.out.2.2.2.2.2.1, HEQ.out.2.1, ← HEQ.out.2.2.2.1, ← Nat.succ_mul]
        exact Nat.mul_le_mul_right _ la.2.1
      have hxb := (mY.sl x HIN.out.2.1).ob
      have htl : ((x.cs.drop A).take m).length ≤ m := by rw [List.length_take]; omega
      obtain ⟨bx, hbx⟩ : ∃ bx : Sl, { ax with cs := splice ax.cs A1 ((x.cs.drop A).take m) } = bx := ⟨_, rfl⟩
      have M7 := mY.octs HIN.out.1 hr7 (splice_len _ _ _ (by omega)) (fun z hz => by
        unfold splice at hz
        rcases List.mem_append.1 hz with h | h
        · exact maY.ob z (List.mem_of_mem_take h)
        · rcases List.mem_append.1 h with h | h
          · exact hxb z (List.mem_of_mem_drop (List.mem_of_mem_take h))
          · exact maY.ob z (List.mem_of_mem_drop h)) ht7
      rw [hbx] at M7
      have b_no : bx.no = ax.no := by rw [← hbx]
      have hinX7 : x ∈ ((S1.put ax).put bx).sl := slab_put HIN.out.2.1 (by rw [b_no, HIN.out.2.2.1]; exact HIN.out.2.2.2.2)
      have IU7 : InUse ((S1.put ax).put bx) x an y (x.cls : Int) (x.no : Int) (an : Int) (y.gen : Int) := ⟨rfl, slabOf_at M7.nos hinX7, rfl, HU.out.cel, rfl, HU.out.used⟩
      have FS := Lib.hid (freeS_ok M7 IU7 (IU7.val M7 (by show S1.closed = false; rw [HI.out.2.2.2.2.1]; exact (valE_open HE.out).1) (valE_open HE.out).2) hgen)
      have hgF : F' ax.g := maY.fg
      have hqF : F' x.q := (mY.sl x HIN.out.2.1).fq
      have nF : ∀ j, w.heap.size ≤ j → j < w2.heap.size → ¬ F' j := fun j h1 h2 hj => by
        rcases HT.out.1 j hj with e | e
        · have := HB.out.fl j e; omega
        · omega
      have l4 := lt_of R4.out
      have l6 := lt_of R6.out
      have l11 := lt_of H11.out
      have n11 : ¬ F' r2 := fun hj => by have := HC.out.fl r2 hj; have := HR2.out; omega
      have szy := hby.size
      have s44 := lt_of H4.out
      have s46 := lt_of H6.out
      have P4' := Lib.hid ((ht7.block r (by omega) (fun e => nF r hrw l4 (e ▸ hgF))).trans ((hby.block r s44).trans H4.out))
      have P6' := Lib.hid ((ht7.block (r + 1) (by omega) (fun e => nF _ hrw1 l6 (e ▸ hgF))).trans ((hby.block (r + 1) s46).trans H6.out))
      have P11 := Lib.hid ((ht7.block r2 (by omega) (fun e => n11 (e ▸ hgF))).trans ((hby.block r2 l11).trans H11.out))
      have T7 := Lib.hid ((Touch.of_below (F := F') hby).then (ht7.mono (G := F') (fun j hj => hj ▸ hgF)))
      have HBX := Lib.hid (And.intro hbx b_no)
      obtain ⟨b0, b1, b2, b3⟩ := cells4 P4'.out
      clear hby hr7 ht7 mY maY hxb hbx M7 b_no hinX7 IU7 CPY OA OX
      go_wp2_with fail
      refine FS.out.mono ?_
      rintro e w8 ⟨rfl, hM8, hT8⟩
      have hqr : x.q < w.heap.size := HB.out.fl x.q (HB.out.cm.sl x HX.out.1).fq
      have Q6 := Lib.hid ((hT8.block (r + 1) (lt_of P6'.out) (by omega)).trans P6'.out)
      have Q11 := Lib.hid ((hT8.block r2 (lt_of P11.out) (fun e => n11 (e ▸ hqF))).trans P11.out)
      have T8 := Lib.hid (T7.out.then (hT8.mono (G := F') (fun j hj => hj ▸ hqF)))
      have M8 := Lib.hid hM8
      clear FS hM8 hT8 b0 b1 b2 b3
      obtain ⟨u0, u1, u2, u3⟩ := cells4 Q11.out
      obtain ⟨q0, q1, q2, q3⟩ := cells4 Q6.out
      have f0 := free_of Q6.out 0
      have f1 := free_of Q6.out 1
      have f2 := free_of Q6.out 2
      have f3 := free_of Q6.out 3
      go_wp2_with fail
      (try simp only [Exit.inBlock, Exit.then])
      obtain ⟨p0, p1, p2, p3⟩ := cells4 (res4 (a := .int .i64 (nc : Int)) (b := .int .i64 (x1.no : Int)) (c := .int .i64 (i : Int)) (d := .int .i64 (y1.gen : Int)) Q6.out)
      have tF := touch4 (w := w8) (r + 1) (.int .i64 (nc : Int)) (.int .i64 (x1.no : Int)) (.int .i64 (i : Int)) (.int .i64 (y1.gen : Int))
      have hSt : RsMove S S1 x an y x1 i y1 kn = ((S1.put ax).put bx).put { x with cl := x.cl.set an ⟨y.gen + 1, 0, false⟩ } := by
        have e1 : (S1.put ax).put bx = S1.put bx := put_put S1 ax bx HBX.out.2.symm
        rw [e1]
        unfold RsMove octOf
        rw [HOLD.out, HM.out, HEQ.out.1, HEQ.out.2.2.1, ← HBX.out.1, ← HAX.out]
        have hc1 : x1.cls = nc := by have := HIN.out.2.2.2.1; rw [← HAX.out] at this; exact this
        rw [hc1, HEQ.out.2.2.2.2.1, HEQ.out.2.1, HEQ.out.2.2.2.1]
      refine bodyPost_ret (v := .tuple #[.agg #[.int .i64 (nc : Int), .int .i64 (x1.no : Int), .int .i64 (i : Int), .int .i64 (y1.gen : Int)], .int .i64 0]) ?_ rfl ?_
      · rw [results_cell_tmp rfl]
        go_simp
      unfold RsPost
      have n6 : ∀ j, j = r + 1 → ¬ F' j := fun j hj => hj ▸ nF _ hrw1 l6
      refine Or.inr (Or.inr ⟨HEE.out, by rw [HNC.out]; exact hsame, S1, n1, x1, i, y1, vs', F', G', b', by rw [HNC.out]; exact HI.out.1, by rw [HNC.out]; exact HI.out.2.1, by rw [HNC.out], ?_, ?_, ?_, ?_⟩)
      · rw [Int.toNat_natCast, hSt]
        exact ⟨M8.out.same (fun j hj hl => tF.block j hl (fun e => n6 j e hj)), (C4.out.bk.touch T8.out C4.out.dis).touch tF (fun j hj hg => by
          rcases HT.out.2.1 j hg with e | e
          · have := HB.out.bk.gl j e; omega
          · omega), C4.out.dis, fun j hj => Nat.lt_of_lt_of_le (Nat.lt_of_lt_of_le (C4.out.fl j hj) T8.out.size) tF.size⟩
      · exact fun j hj => by
          rcases HT.out.1 j hj with e | e
          · exact Or.inl e
          · exact Or.inr (Nat.le_trans B2.out.size e)
      · exact fun j hj => by
          rcases HT.out.2.1 j hj with e | e
          · exact Or.inl e
          · exact Or.inr (Nat.le_trans B2.out.size e)
      · exact (T4.out.trans T8.out (fun j hj => by
          rcases HT.out.1 j hj with e | e
          · exact Or.inl (Or.inl e)
          · exact Or.inr (Nat.le_trans B2.out.size e))).trans tF (fun j hj => Or.inr (by omega))

end Go.Proofs.Ytiaedonhbafpjaa
