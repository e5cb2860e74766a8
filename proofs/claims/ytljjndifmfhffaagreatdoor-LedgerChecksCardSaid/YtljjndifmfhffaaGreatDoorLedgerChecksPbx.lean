/-
  What a row's list of variables gives the walks. No conditions.
  A list of words in memory. No conditions.
  The reference's EntriesString. Conditions: Go's own tables, and the reference's words, hold what their initialisers lay.
-/
import Derived.Test.YtljjndifmfhffaaGreatDoorLedgerChecksPbw
import Derived.Lib.LaidTab
import Derived.Stop.LaidErr
import Derived.LaidLaws
import Derived.MakeChecks
import Derived.SliceStrings
import Derived.Test.YtljjndifmfhffaaGreatDoorLedgerChecksPbs

namespace Go.Proofs.YtljjndifmfhffaaGreatDoor
section
open Go Go.RowKit Go.ChangeShapes Go.WideShapes Go.ChangeAt
set_option linter.unusedVariables false

theorem tabs_of {W : World} {r1 r2 : List (String × DataW Unit)} (h1 : laidMet Tryz.prog (("internal/strconv.uint64pow10", Rows.laid_internal_strconv_uint64pow10) :: r1) W) (h2 : laidMet Tryz.prog (("strings.asciiSpace", Rows.laid_strings_asciiSpace) :: r2) W) : TabsAt W :=
  ⟨Lib.tabIs_of_head (zs := Lib.pow10Tab) (g := 3) (t := 147) (by kernel_rfl) (by kernel_rfl) Tryz.underlying147 Tryz.underlying129 (by kernel_rfl) (by kernel_rfl)
      (by rw [show Lib.tabData .u64 Lib.pow10Tab = (Rows.laid_internal_strconv_uint64pow10 : DataW Unit) from by kernel_rfl]; exact h1),
   Lib.tabIs_of_head (zs := Lib.asciiSpaceTab) (g := 1) (t := 74) (by kernel_rfl) (by kernel_rfl) Tryz.underlying74 Tryz.underlying5 (by kernel_rfl) (by kernel_rfl)
      (by rw [show Lib.tabData .u8 Lib.asciiSpaceTab = (Rows.laid_strings_asciiSpace : DataW Unit) from by kernel_rfl]; exact h2)⟩

end
end Go.Proofs.YtljjndifmfhffaaGreatDoor

namespace Go.Proofs.YtljjndifmfhffaaGreatDoor
section
open Go Go.RowKit Go.ChangeShapes Go.WideShapes Go.ChangeAt
set_option linter.unusedVariables false

/-- A variable holds a list of words. -/
def WordsAt (g : Nat) (xs : List ByteArray) (w : World) : Prop := ∃ gb go gc, w.cell? ⟨g, 0, none⟩ = some (.slice (some ⟨gb, go, none⟩) xs.length gc) ∧ ∀ (k : Nat) x, xs[k]? = some x → w.cell? ⟨gb, go + k, none⟩ = some (.string x)

theorem WordsAt.below {g : Nat} {xs : List ByteArray} {w w' : World} (h : WordsAt g xs w) (hb : Below w.heap.size w w') : WordsAt g xs w' := by
  obtain ⟨gb, go, gc, h1, h2⟩ := h
  refine ⟨gb, go, gc, ?_, fun k x hk => ?_⟩
  · exact (hb.cell (p := ⟨_, 0, none⟩) (World.block_lt_of_cell? w _ h1)).trans h1
  · exact (hb.cell (p := ⟨gb, go + k, none⟩) (World.block_lt_of_cell? w _ (h2 k x hk))).trans (h2 k x hk)

theorem strs_inj : ∀ {a b : List ByteArray}, (strs a : List (DataW Unit)) = strs b → a = b
  | [], [], _ => rfl
  | [], _ :: _, h => by simp [strs] at h
  | _ :: _, [], h => by simp [strs] at h
  | x :: a, y :: b, h => by
    simp only [strs, List.map_cons, List.cons.injEq, DataW.lit.injEq, Lit.string.injEq] at h
    obtain rfl := bytes_ext h.1
    rw [strs_inj (a := a) (b := b) (by simp only [strs]; exact h.2)]

theorem words_of {W : World} {n : String} {D : DataW Unit} {r : List (String × DataW Unit)} {g : Nat} {xs : List ByteArray} (hD : D = .slice (strs xs) []) (hne : 0 < xs.length)
    (hg : Tryz.prog.globalNamed n = some g) (ht : (Tryz.prog.globals[g]?).map (·.type) = some 58) (h : laidMet Tryz.prog ((n, D) :: r) W) : WordsAt g xs W := by
  obtain ⟨ps, ⟨g', t', cs, fuel, p, q, hg', ht', hvar, hd, _, _⟩, _⟩ := h
  obtain rfl := Option.some.inj (hg.symm.trans hg')
  obtain rfl := Option.some.inj (ht.symm.trans ht')
  have c9 : Tryz.prog.cellsOf 9 = 1 := by kernel_rfl
  rcases open_strings Tryz.underlying58 Tryz.underlying9 c9 hd with ⟨_, hx⟩ | ⟨a, len, cap, ss, hcs, _, hl, hm, hz, hx, hcell, _⟩
  · exact absurd hx (by simp [hD])
  · simp only [hD, Prod.mk.injEq, DataW.slice.injEq] at hx
    obtain ⟨⟨e1, e2⟩, _⟩ := hx
    have hdrop : ss.drop len = [] := by
      have := congrArg List.length e2
      simp [strs] at this
      exact List.drop_eq_nil_of_le (by omega)
    have hle : ss.length ≤ len := by simpa using hdrop
    rw [List.take_of_length_le hle] at e1
    obtain rfl := strs_inj e1
    obtain ⟨b, o, sp⟩ := a
    obtain ⟨cl⟩ := cs
    simp only at hcs
    subst hcs
    have hlen : len = xs.length := by
      split at hz <;> omega
    have hsp : sp = none := by
      have := hcell 0 (by omega)
      simpa [Addr.add] using World.cell?_spot this
    subst hsp
    refine ⟨b, o, cap, ?_, fun k x hk => ?_⟩
    · have := World.var?_cell hg hvar 0
      rw [← hlen]
      simpa using this
    · have hk' : k < xs.length := by
        rcases Nat.lt_or_ge k xs.length with y | y
        · exact y
        · rw [List.getElem?_eq_none y] at hk; cases hk
      have hc := hcell k hk'
      have ea : (⟨b, o, none⟩ : Addr).add k = ⟨b, o + k, none⟩ := by unfold Addr.add; split <;> simp_all
      rw [ea] at hc
      rw [hc, List.getD_eq_getElem?_getD, hk]
      rfl

end
end Go.Proofs.YtljjndifmfhffaaGreatDoor

namespace Go.Proofs.YtljjndifmfhffaaGreatDoor
section
open Go.RowKit
set_option linter.unusedVariables false

/-- The reference's words. -/
def entYs : List ByteArray := ⟨#[]⟩ :: ewordsA
theorem ensErr_all : ∀ (L : List En) (k : Nat), ensErr L = 0 → k < L.length → enErr (L.getD k En.zero) = 0
  | [], k, _, h => by simp at h
  | e :: r, 0, h, _ => by
    unfold ensErr at h
    by_cases x : enErr e = 0
    · exact x
    · rw [if_neg x] at h; exact absurd h x
  | e :: r, k + 1, h, hk => by
    unfold ensErr at h
    by_cases x : enErr e = 0
    · rw [if_pos x] at h
      have := ensErr_all r k h (by simpa using hk)
      simpa using this
    · rw [if_neg x] at h; exact absurd h x

set_option maxHeartbeats 4000000 in
set_option maxRecDepth 100000 in
theorem entriesString_any (v : Value) (L : List En) (w : World) (ht : TabsAt w) (hw : WordsAt 0 entYs w) (hr : EnsIn w v L) :
    Calls Tryz.prog 7 #[v] w (ETextPost L w) := by
  have FT := entriesFault_any v L w hr
  obtain ⟨a, cap, rfl, hl, hc⟩ := hr
  have TT : Hid (∀ {w' : World}, Below w.heap.size w w' → TabsAt w') := Lib.hid (fun h => ht.below h)
  have WW : Hid (∀ {w' : World}, Below w.heap.size w w' → WordsAt 0 entYs w') := Lib.hid (fun h => hw.below h)
  have HC := Lib.hid hc
  unfold FaultPost at FT
  clear hc ht hw
  by_cases hp : listErr L = 0
  case neg =>
    have ET2 : entText L = ⟨#[]⟩ := entText_bad rfl hp
    have hp' : (listErr L == 0) = false := by simpa using hp
    unfold ETextPost
    rw [ET2]
    have HFT := Lib.hid FT
    generalize listErr L = pe at *
    clear FT ET2 hp
    go_enter Tryz.func7, Tryz.ntmps7
    go_wp2_with fail
    refine HFT.out.mono ?_
    rintro e w1 ⟨rfl, hb1⟩
    have B1 := Lib.hid hb1
    clear hb1
    go_wp2_with fail
    go_ret2
    exact ⟨rfl, B1.out⟩
  case pos =>
    have HP0 := Lib.hid hp
    have hn : L.length ≤ 5000 := by
      by_cases x : 5000 < L.length
      · unfold listErr at hp; rw [if_pos x] at hp; omega
      · omega
    have hE : ensErr L = 0 := by unfold listErr at hp; rwa [if_neg (by omega)] at hp
    have OK := Lib.hid (fun k (hk : k < L.length) => enErr_ok.1 (ensErr_all L k hE hk))
    rw [hp] at FT
    have HFT := Lib.hid FT
    clear FT hp hE
    go_enter Tryz.func7, Tryz.ntmps7
    go_wp2_with fail
    refine HFT.out.mono ?_
    rintro e w1 ⟨rfl, hb1⟩
    have B1 := Lib.hid hb1
    have hs1 := hb1.size
    clear hb1
    go_wp2_with fail
    have IB0 := Lib.hid (IsB.new w1 hs1)
    have B10 := Lib.hid (B1.out.alloc hs1 (.cells #[.pointer none, .slice none 0 0] 53))
    go_loopw [17] (fun i wr => ∃ (k : Nat) (X : List UInt8), k ≤ L.length ∧ i = .int .i64 k ∧ IsB wr w.heap.size w1.heap.size X ∧ X = ensText (L.take k) ∧ X.length ≤ 100 * k ∧ Below w.heap.size w wr) (fun i _ => L.length - (intOf i).toNat)
    case atStart => exact ⟨0, [], Nat.zero_le _, rfl, IB0.out, rfl, by simp, B10.out⟩
    case round =>
      obtain ⟨k, X, hk, rfl, hib, hX, hXl, hbel⟩ := hrel
      have BL := Lib.hid hbel
      have IB := Lib.hid hib
      have HX := Lib.hid hX
      clear hib hX
      have hsz := hbel.size
      by_cases hlt : k < L.length
      · obtain ⟨b1, o1, rfl, hc6⟩ := HC.out k hlt
        have hlb : b1 < w.heap.size := World.block_lt_of_cell? w _ hc6.1
        have hc7 : cells6 wr b1 (o1 + k * 6) (L.getD k En.zero) := by
          have f : ∀ j, wr.cell? ⟨b1, j, none⟩ = w.cell? ⟨b1, j, none⟩ := fun j => BL.out.cell (p := ⟨b1, j, none⟩) hlb
          obtain ⟨h0, h1, h2, h3, h4, h5⟩ := hc6
          exact ⟨(f _).trans h0, (f _).trans h1, (f _).trans h2, (f _).trans h3, (f _).trans h4, (f _).trans h5⟩
        have TX := Lib.hid (ensText_step L k hlt)
        obtain ⟨hkk, hnn⟩ := OK.out k hlt
        clear hc6 hbel
        generalize L.getD k En.zero = e at *
        obtain ⟨g0, g1, g2, g3, g4, g5⟩ := hc7
        obtain ⟨K, hK⟩ : ∃ K : Nat, e.k = K := ⟨e.k.toNat, by omega⟩
        have EW := Lib.hid (show eword e.k = (entYs.getD K ByteArray.empty).data.toList by
          unfold eword ewordA entYs
          obtain ⟨J, rfl⟩ : ∃ J, K = J + 1 := ⟨K - 1, by omega⟩
          rw [hK]
          congr 2
          rw [show ((((J + 1 : Nat) : Int)) - 1).toNat = J by omega]
          rfl)
        have HNN := Lib.hid hnn
        have hK1 : 1 ≤ K := by omega
        have hK12 : K < 12 := by omega
        rw [hK] at g0
        have hwz := (eword_plain e.k).2.2
        rw [EW.out] at hwz
        have B2 := Lib.hid (BL.out.alloc hsz (.cells #[.int .i64 K, .int .i64 e.o, .int .i64 e.p, .int .i64 e.a, .int .i64 e.l, .int .i64 e.u] 33))
        have EB := Lib.hid (heap_alloc_new wr (.cells #[.int .i64 K, .int .i64 e.o, .int .i64 e.p, .int .i64 e.a, .int .i64 e.l, .int .i64 e.u] 33))
        have IB2 := Lib.hid (IB.out.below ((Below.refl _ wr).alloc (Nat.le_refl _) (.cells #[.int .i64 K, .int .i64 e.o, .int .i64 e.p, .int .i64 e.a, .int .i64 e.l, .int .i64 e.u] 33)))
        obtain ⟨gb, go, gc, hg0, hgk⟩ := WW.out B2.out
        replace hg0 : (wr.alloc (.cells #[.int .i64 K, .int .i64 e.o, .int .i64 e.p, .int .i64 e.a, .int .i64 e.l, .int .i64 e.u] 33)).cell? ⟨0, 0, none⟩ = some (.slice (some ⟨gb, go, none⟩) 12 gc) := hg0
        have hgw := hgk K (entYs.getD K ByteArray.empty) (by
          have h12 : entYs.length = 12 := rfl
          rw [List.getD_eq_getElem?_getD, List.getElem?_eq_getElem (by omega)]; rfl)
        generalize entYs.getD K ByteArray.empty = wd at *
        have hwd8 : wd.size ≤ 8 := by have : wd.data.toList.length = wd.size := Array.length_toList; omega
        have hK11i : (K : Int) < 12 := by omega
        have hK0i : 0 ≤ (K : Int) := by omega
        clear hgk hnn
        go_wp2_with fail
        refine (writeString_keep w.heap.size w1.heap.size X wd _ IB2.out (by omega) B2.out.size).mono ?_
        rintro e' w3 ⟨rfl, hu, hst, hb3⟩
        have he3 := hst _ _ _ (by decide) (by decide) EB.out
        have B3 := Lib.hid (B2.out.trans hb3)
        have U3 := Lib.hid hu
        have q1 : w3.cell? ⟨wr.heap.size, 1, none⟩ = some (.int .i64 e.o) := (cell_of he3 1).trans rfl
        have q2 : w3.cell? ⟨wr.heap.size, 2, none⟩ = some (.int .i64 e.p) := (cell_of he3 2).trans rfl
        have q3 : w3.cell? ⟨wr.heap.size, 3, none⟩ = some (.int .i64 e.a) := (cell_of he3 3).trans rfl
        have q4 : w3.cell? ⟨wr.heap.size, 4, none⟩ = some (.int .i64 e.l) := (cell_of he3 4).trans rfl
        have q5 : w3.cell? ⟨wr.heap.size, 5, none⟩ = some (.int .i64 e.u) := (cell_of he3 5).trans rfl
        have AB := Lib.hid (heap_alloc_new w3 (.cells #[.int .i64 e.o, .int .i64 e.p, .int .i64 e.a, .int .i64 e.l, .int .i64 e.u] 3))
        have B4 := Lib.hid (B3.out.alloc B3.out.size (.cells #[.int .i64 e.o, .int .i64 e.p, .int .i64 e.a, .int .i64 e.l, .int .i64 e.u] 3))
        have U4 := Lib.hid (U3.out.isB.below ((Below.refl _ w3).alloc (Nat.le_refl _) (.cells #[.int .i64 e.o, .int .i64 e.p, .int .i64 e.a, .int .i64 e.l, .int .i64 e.u] 3)))
        clear hu hst hb3 he3 g0 g1 g2 g3 g4 g5 hg0 hgw
        go_wp2_with fail
        clear q1 q2 q3 q4 q5
        generalize w3.alloc (.cells #[.int .i64 e.o, .int .i64 e.p, .int .i64 e.a, .int .i64 e.l, .int .i64 e.u] 3) = W4 at *
        generalize w3.heap.size = A at *
        go_loopw [39] (fun i wr => ∃ (m : Nat) (Y : List UInt8), m ≤ 5 ∧ i = .int .i64 m ∧ IsB wr w.heap.size w1.heap.size Y ∧ Y = X ++ wd.data.toList ++ numsText (e.nums.take m) ∧ Y.length ≤ 100 * k + 8 + 10 * m ∧ wr.heap[A]? = some (.cells #[.int .i64 e.o, .int .i64 e.p, .int .i64 e.a, .int .i64 e.l, .int .i64 e.u] 3 (0, 0)) ∧ Below w.heap.size w wr) (fun i _ => 5 - (intOf i).toNat)
        case atStart => exact ⟨0, _, by omega, rfl, U4.out, by simp [numsText], by simp; omega, AB.out, B4.out⟩
        case round =>
          obtain ⟨m, Y, hm, rfl, hib, hY, hYl, hA, hbx⟩ := hrel
          have IBY := Lib.hid hib
          have HY := Lib.hid hY
          have AB := Lib.hid hA
          have BX := Lib.hid hbx
          have hsx := hbx.size
          clear hib hY hA hbx
          by_cases hm5 : m < 5
          · have NC := nums_cell (e := e) AB.out m hm5
            have TN := Lib.hid (numsText_step e.nums m hm5)
            have hz : inB (e.nums.getD m 0) := HNN.out _ (by
              rw [List.getD_eq_getElem?_getD, List.getElem?_eq_getElem (show m < e.nums.length from hm5)]
              exact List.getElem_mem _)
            generalize e.nums.getD m 0 = z at *
            have hz9 := (itoa_B hz).2.1
            obtain ⟨z1, z2⟩ := hz
            go_wp2_with fail
            refine (itoa_any z _ (by omega) (by omega) (TT.out BX.out)).mono ?_
            rintro e' w6 ⟨x, rfl, hx, hxz, hb6⟩
            have HX6 := Lib.hid hx
            have hx9 : x.size ≤ 9 := by have : x.data.toList.length = x.size := Array.length_toList; rw [← this, hx]; exact hz9
            have B6 := Lib.hid (BX.out.trans (hb6.mono hsx))
            have IB6 := Lib.hid (IBY.out.below hb6)
            have A6 := Lib.hid ((hb6.block A (lt_of AB.out)).trans AB.out)
            have hs6 := B6.out.size
            have c1 : ¬ 9223372036854775807 < 1 + x.size := by omega
            have s1 : ({ data := #[32] } : ByteArray).size = 1 := rfl
            clear hb6 hx hxz
            go_wp2_with fail
            refine (writeString_keep w.heap.size w1.heap.size Y _ w6 IB6.out (by simp; omega) hs6).mono ?_
            rintro e' w7 ⟨rfl, hu7, hst7, hb7⟩
            have U7 := Lib.hid hu7
            have A7 := Lib.hid (hst7 _ _ _ (by decide) (by decide) A6.out)
            have B7 := Lib.hid (B6.out.trans hb7)
            clear hu7 hst7 hb7
            go_wp2_with fail
            go_round
            case rel => exact ⟨m + 1, _, by omega, by go_num, U7.out.isB, by rw [TN.out, HY.out, ← HX6.out]; simp, by simp; omega, A7.out, B7.out⟩
            case measure => simp [intOf]; omega
          · obtain rfl : m = 5 := by omega
            have s1 : ({ data := #[10] } : ByteArray).size = 1 := rfl
            clear hm hm5
            go_wp2_with fail
            refine (writeString_keep w.heap.size w1.heap.size Y ⟨#[10]⟩ _ IBY.out (by omega) hsx).mono ?_
            rintro e' w8 ⟨rfl, hu8, hst8, hb8⟩
            have I8 := Lib.hid hu8
            have B8 := Lib.hid (BX.out.trans hb8)
            clear hu8 hst8 hb8
            go_wp2_with fail
            go_round
            case rel => exact ⟨k + 1, _, by omega, by go_num, I8.out.isB, by rw [TX.out, HY.out, HX.out, EW.out]; rfl, by simp; omega, B8.out⟩
            case measure => simp [intOf]; omega
      · obtain rfl : k = L.length := by omega
        have HT := Lib.hid (show X = (if listErr L = 0 then ensText L else []) by rw [if_pos HP0.out, HX.out, List.take_length])
        clear hlt hk
        go_wp2_with fail
        refine (Any.Builder_String_any layS layX w.heap.size w1.heap.size X wr IB.out hsz).mono ?_
        rintro e' w9 ⟨rfl, hb9⟩
        have B9 := Lib.hid (BL.out.trans hb9)
        clear hb9
        go_wp2_with fail
        go_ret2
        exact etext_ret ⟨X.toArray⟩ 0 (by unfold entText; rw [← HT.out]) HP0.out B9.out

end
end Go.Proofs.YtljjndifmfhffaaGreatDoor
