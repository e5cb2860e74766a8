/-
  made of a rope: octets as new leaves. Conditions: numbers in their bounds.
-/
import Derived.Test.YtidfidknflcioaaTopRopePbe
import Derived.Test.YtidfidknflcioaaTopRopePbf
import Derived.Test.YtidfidknflcioaaTopRopePam
namespace Go.Proofs.Ytidfidknflcioaa
open Go.RowKit
set_option linter.unusedVariables false

/-- New leaves, in a row of their own. -/
structure MadeAt (B : Nat) (wr : World) (lv : Value) (L : List Lm) : Prop where
  row : wr.ownsRow B 32 1 lv L.length (L.map Lm.val)
  mem : ∀ x ∈ L, byteRow wr x.g x.cs ∧ x.ok ∧ B ≤ x.g
  inj : (L.map Lm.g).Nodup
theorem MadeAt.nil (B : Nat) (w : World) : MadeAt B w (.slice none 0 0) [] := ⟨World.ownsRow_nil _ _ _ _, fun x h => by simp at h, by simp⟩
theorem MadeAt.below {B : Nat} {w w' : World} {lv : Value} {L : List Lm} (h : MadeAt B w lv L) (hb : Below w.heap.size w w') : MadeAt B w' lv L :=
  ⟨row_kept h.row hb, fun x hx => by
    obtain ⟨h1, h2, h3⟩ := h.mem x hx
    exact ⟨(hb.block _ (lt_of h1)).trans h1, h2, h3⟩, h.inj⟩
theorem MadeAt.app {B : Nat} {w w' : World} {lv v' : Value} {L : List Lm} (h : MadeAt B w lv L) {x : Lm} (hx : byteRow w x.g x.cs) (hok : x.ok) (hB : B ≤ x.g) (hnew : ∀ y ∈ L, y.g ≠ x.g)
    (hown : w'.ownsRow B 32 1 v' (L.length + 1) (L.map Lm.val ++ [x.val])) (hg : w.grownBy w' lv.ownBlock) : MadeAt B w' v' (L ++ [x]) := by
  have keep : ∀ (g : Nat) (cs : List Int), byteRow w g cs → byteRow w' g cs := fun g cs hr => by
    refine (hg.block g (lt_of hr) (fun e => ?_)).trans hr
    obtain ⟨c2, hc2⟩ := row_block h.row e.symm
    have hr' : w.heap[g]? = _ := hr
    rw [hr'] at hc2
    simp only [Option.some.injEq, Obj.cells.injEq] at hc2
    exact absurd hc2.2.1 (by decide)
  refine ⟨by rw [List.length_append, List.map_append]; exact hown, fun y hy => ?_, ?_⟩
  · rcases List.mem_append.1 hy with hy | hy
    · obtain ⟨h1, h2, h3⟩ := h.mem y hy
      exact ⟨keep _ _ h1, h2, h3⟩
    · obtain rfl : y = x := by simpa using hy
      exact ⟨keep _ _ hx, hok, hB⟩
  · rw [List.map_append, List.nodup_append]
    refine ⟨h.inj, by simp, fun a ha b hb => ?_⟩
    obtain ⟨y, hy, rfl⟩ := List.mem_map.1 ha
    simp only [List.map_cons, List.map_nil, List.mem_singleton] at hb
    rw [hb]
    exact hnew y hy

def MadeLv (p : RPar) (os : List Int) (w : World) : Ending → World → Prop := fun e w' =>
  ∃ lv L, e = .returned lv ∧ MadeAt w.heap.size w' lv L ∧ L.map Lm.lc = madeC p os ∧ (∀ x ∈ L, 1 ≤ x.n ∧ x.n ≤ p.leaf) ∧ Below w.heap.size w w'

set_option maxHeartbeats 4000000 in
set_option maxRecDepth 100000 in
theorem made_any (r : Nat) (p : RPar) (a : Option Addr) (n c : Nat) (os : List Int) (w : World) (hp : ParAt w r p) (ho : POk p) (hr : Reads w .u8 (.slice a n c) os) (hn : os.length = n) (hn1 : n ≤ 100000) (hc : n ≤ c ∧ c ≤ 9223372036854775807) (hbz : bytes os) :
    Calls Try.prog 43 #[.pointer (some ⟨r, 0, none⟩), .slice a n c] w (MadeLv p os w) := by
  obtain ⟨i0, hi0, hz0, hz1, hz2⟩ := info_parts info_row
  have hleaf := ho.leaf
  have PC := Lib.hid (piecesR_any r p n w hp ho hn1)
  have HS := Lib.hid (show piecesS p n = (pcsN n p.leaf).map fun j => (j, p.gr 0 j) from rfl)
  have PL := Lib.hid (fun j (hj : j ∈ pcsN n p.leaf) => pcsN_le hleaf.1 hj)
  have PS := Lib.hid (pcsN_sum n p.leaf hleaf.1)
  have MC := Lib.hid (show madeC p os = cutC p (pcsN n p.leaf) os by unfold madeC; rw [hn])
  have hpl : (pcsN n p.leaf).length ≤ 200000 := by
    have := pieces_len p n hleaf.1
    unfold piecesS at this
    rw [List.length_map] at this
    omega
  have HO := Lib.hid ho
  have HR := Lib.hid hr
  have HB := Lib.hid hbz
  have HN := Lib.hid hn
  obtain ⟨js, hjs⟩ : ∃ js, pcsN n p.leaf = js := ⟨_, rfl⟩
  rw [hjs] at HS PL PS MC hpl
  obtain ⟨hc1, hc2⟩ := hc
  clear hp ho hr hbz hjs hn
  go_enter Try.func43, Try.ntmps43
  go_wp2_with fail
  refine PC.out.mono ?_
  rintro e w1 ⟨v, rfl, hrow, hb⟩
  rw [HS.out, List.length_map] at hrow
  obtain ⟨va, vc, rfl⟩ := wrow_sh hrow
  have HV := Lib.hid hrow
  have HB1 := Lib.hid hb
  have hs1 := hb.size
  have R1 := Lib.hid (HR.out.below hb rfl)
  clear hrow hb PC
  go_wp2_with fail
  go_loopw [1, 5, 15] (fun s1 ov i wr => ∃ (k : Nat) (L : List Lm) (rest : List Int) (a' : Option Addr) (n' c' : Nat), k ≤ js.length ∧ i = .int .i64 (k : Int) ∧ s1 = .slice a' n' c' ∧ rest.length = n' ∧ n' ≤ c' ∧ c' ≤ 9223372036854775807 ∧ Reads w1 .u8 (.slice a' n' c') rest ∧ bytes rest ∧ (js.drop k).sum = n' ∧
    L.map Lm.lc ++ cutC p (js.drop k) rest = madeC p os ∧ L.length = k ∧ (∀ x ∈ L, 1 ≤ x.n ∧ x.n ≤ p.leaf) ∧ MadeAt w1.heap.size wr ov L ∧ Below w1.heap.size w1 wr ∧ (∀ x ∈ L, x.g < wr.heap.size) ∧ n' ≤ n) (fun _ _ i _ => js.length - (intOf i).toNat)
  case atStart => exact ⟨0, [], os, a, n, c, Nat.zero_le _, rfl, rfl, HN.out, hc1, hc2, R1.out, HB.out, PS.out, MC.out.symm, rfl, fun x h => by simp at h, MadeAt.nil _ _, Below.refl _ _, fun x h => by simp at h, Nat.le_refl _⟩
  case round =>
    obtain ⟨k, L, rest, a', n', c', hk, rfl, rfl, hrl, hn', hc', hrd, hrb, hsum, hcut, hLk, hLn, hmd, hb, hlt', hnn⟩ := hrel
    have RD := Lib.hid hrd
    have RB' := Lib.hid hrb
    have HRL := Lib.hid hrl
    have HSU := Lib.hid hsum
    have HCU := Lib.hid hcut
    have HLK := Lib.hid hLk
    have HLN := Lib.hid hLn
    have MD := Lib.hid hmd
    have BL := Lib.hid hb
    have HLT := Lib.hid hlt'
    clear hrd hrb hrl hsum hcut hLk hLn hmd hlt'
    by_cases hlt : k < js.length
    · as_aux_lemma =>
        obtain ⟨j, hj⟩ : ∃ j, js[k]? = some j := ⟨_, List.getElem?_eq_getElem hlt⟩
        obtain ⟨q1, q2⟩ := szCells_get (js.map fun j => (j, p.gr 0 j)) k (j, p.gr 0 j) (by rw [List.getElem?_map, hj]; rfl)
        obtain ⟨gv, rfl, d1, _⟩ := wrow_cell HV.out q1
        obtain ⟨_, e', d2, _⟩ := wrow_cell HV.out q2
        cases e'
        have d1' := old_cell hb d1
        have d2' := old_cell hb d2
        have jl := PL.out j (List.mem_of_getElem? hj)
        obtain ⟨G, hG⟩ : ∃ G, p.gr 0 j = G := ⟨_, rfl⟩
        have gr := HO.out.gr (room := 0) (need := j) (by omega) jl.2
        rw [hG] at gr d2'
        have ejs : js.drop k = j :: js.drop (k + 1) := by
          rw [List.drop_eq_getElem_cons hlt]
          have := (List.getElem?_eq_some_iff.1 hj).2
          rw [this]
        have HSU := HSU.out
        have HCU := HCU.out
        rw [ejs] at HSU HCU
        simp only [List.sum_cons] at HSU
        unfold cutC at HCU
        rw [hG] at HCU
        have HCU := Lib.hid HCU
        have hjn : j ≤ n' := by omega
        have hsum := Lib.hid HSU
        simp only at d1' d2'
        have CP := Lib.hid (fun (W : World) (hW : Below w1.heap.size w1 W) => copied_any (.slice a' j c') (rest.take j) (G : Int) W ((RD.out.below hW rfl).take j (by rw [HRL.out]; exact hjn)))
        have g3 := gr.2.2.1
        have g5 := gr.2.2.2.2
        obtain ⟨ab, ao, rfl⟩ : ∃ b o, a' = some ⟨b, o, none⟩ := by
          obtain ⟨a2, c2, e2, _, hcell⟩ := RD.out
          simp only [Value.slice.injEq] at e2
          obtain ⟨b, o, e3, _⟩ := hcell (fun e => by have := HRL.out; rw [e] at this; simp at this; omega)
          exact ⟨b, o, e2.1.trans e3⟩
        have jl1 := jl.1
        have jl2 := jl.2
        have hjc : j ≤ c' := by omega
        have htl : (rest.take j).length = j := by rw [List.length_take, HRL.out]; omega
        have hc0 : copE (rest.take j).length (G : Int) = 0 := by
          unfold copE
          rw [htl, if_neg (by omega), if_pos ⟨by omega, by omega⟩]
        have HTL := Lib.hid (And.intro htl hc0)
        obtain ⟨UA, hUA⟩ : ∃ UA, (if c' = j then (some ⟨ab, ao, none⟩ : Option Addr) else some ⟨ab, ao + j, none⟩) = UA := ⟨_, rfl⟩
        have RDN := Lib.hid (RD.out.dropZ j (by rw [HRL.out]; exact hjn) UA (fun h => by rw [← hUA, if_neg (by have := HRL.out; omega)]) (c' - j))
        clear hj q1 q2 d1 d2 ejs HSU jl gr hG hb htl hc0
        go_upto_region 5 with fail
        have hbx := heap_alloc_new wr (.cells #[.int .i64 (j : Int), .int .i64 (G : Int)] 39)
        have BA := (Below.refl wr.heap.size wr).alloc (Nat.le_refl _) (.cells #[.int .i64 (j : Int), .int .i64 (G : Int)] 39)
        have MD1 := Lib.hid (MD.out.below BA)
        have BL1 := Lib.hid (BL.out.trans (BA.mono BL.out.size))
        have hsz1 := BA.size
        have HLT1 := Lib.hid (fun x (hx : x ∈ L) => Nat.lt_of_lt_of_le (HLT.out x hx) hsz1)
        have hsW1 := BL1.out.size
        obtain ⟨bb, hbb⟩ : ∃ bb, wr.heap.size = bb := ⟨_, rfl⟩
        rw [hbb] at hbx ⊢
        generalize wr.alloc (.cells #[.int .i64 (j : Int), .int .i64 (G : Int)] 39) = W1 at *
        have HBX := Lib.hid hbx
        have x0 : W1.cell? ⟨bb, 0, none⟩ = some (.int .i64 (j : Int)) := by rw [cell_of hbx]; rfl
        have x1 : W1.cell? ⟨bb, 1, none⟩ = some (.int .i64 (G : Int)) := by rw [cell_of hbx]; rfl
        have CQ : Hid (∀ q, Calls Try.prog 75 #[.slice (some ⟨ab, ao, none⟩) j c', .int .i64 (G : Int)] (W1.drewN q) (CopyPost (rest.take j) (G : Int) (W1.drewN q))) := Lib.hid (fun q => CP.out _ (bdrewN BL1.out q))
        clear hbx hbb BA MD BL HLT d1' d2' CP hsz1
        refine wp_region_mid 6 _ (by kernel_rfl) (by kernel_rfl) rfl ?_
        simp only [List.take_succ_cons, List.take_zero, List.drop_succ_cons, List.drop_zero]
        repeat (go_big_quiet_step (fail))
        refine wpQuiet_nil ?_
        intro _ hw'
        obtain ⟨nq, rfl⟩ := hw'
        intro K hK
        go_simp
        refine (CQ.out _).mono ?_
        rintro e w2 ⟨hb2, ⟨_, gg, hgg, rfl, hrow⟩ | ⟨hne, _⟩⟩
        case inr => exact absurd HTL.out.2 hne
        rw [HTL.out.1, Int.toNat_natCast] at hrow ⊢
        have B2 : Below W1.heap.size W1 w2 := (bdrewN (Below.refl _ W1) nq).trans hb2
        have BL2 := Lib.hid (BL1.out.trans (B2.mono BL1.out.size))
        have MD2 := Lib.hid (MD1.out.below B2)
        have HGG := Lib.hid hgg
        have HROW := Lib.hid hrow
        have BX2 := Lib.hid ((B2.block bb (lt_of HBX.out)).trans HBX.out)
        have HS2 := B2.size
        clear hb2 hrow CQ MD1 BL1 HBX x0 x1 B2 hgg
        go_simp
        refine hK _ _ ?_
        clear hK K
        repeat (go_big_quiet_step (fail))
        refine wpQuiet_nil ?_
        intro _ hw'
        obtain ⟨nq2, rfl⟩ := hw'
        have MD3 := Lib.hid (MD2.out.below (bdrewN (Below.refl _ w2) nq2))
        have BL3 := Lib.hid (bdrewN BL2.out nq2)
        have ROW3 : Hid (byteRow (w2.drewN nq2) gg (rest.take j ++ zeros (G - j))) := Lib.hid HROW.out
        have BX3 : Hid ((w2.drewN nq2).heap[bb]? = some (.cells #[.int .i64 (j : Int), .int .i64 (G : Int)] 39 (0, 0))) := Lib.hid BX2.out
        have GN : Hid (∀ y ∈ L, y.g ≠ gg) := Lib.hid (fun y hy e => by
          have h1 := HLT1.out y hy
          have h2 : W1.heap.size ≤ gg := HGG.out
          omega)
        have GB : Hid (w1.heap.size ≤ gg) := Lib.hid (by
          have h2 : W1.heap.size ≤ gg := HGG.out
          omega)
        clear MD2 BL2 HROW BX2 HS2
        generalize w2.drewN nq2 = w3 at *
        have hs3 := BL3.out.size
        have hLk := HLK.out
        have zl : (rest.take j ++ zeros (G - j)).length = G := by
          rw [List.length_append, HTL.out.1]; simp [zeros]; omega
        have XOK : Hid (Lm.ok ⟨gg, rest.take j ++ zeros (G - j), j⟩) := Lib.hid (by
          refine ⟨by show j ≤ _; rw [zl]; omega, by show _ ≤ 100000; rw [zl]; omega, fun z hz => ?_⟩
          rcases List.mem_append.1 hz with h | h
          · exact RB'.out z (List.mem_of_mem_take h)
          · exact bytes_zeros _ z h)
        have XLC : Hid (Lm.lc ⟨gg, rest.take j ++ zeros (G - j), j⟩ = (rest.take j, G)) := Lib.hid (by
          unfold Lm.lc
          simp only [zl]
          rw [List.take_left' HTL.out.1])
        have XV : Hid (Lm.val ⟨gg, rest.take j ++ zeros (G - j), j⟩ = .slice (some ⟨gg, 0, none⟩) j G) := Lib.hid (by unfold Lm.val; simp only [zl])
        clear zl
        go_wp2_with (at_builtin; go_must (refine wpList_append_w rfl (.tmp 29) (.tmp 31) 66 rfl w1.heap.size 32 i0 (.slice none 0 0) 1 24 Try.underlying66 hi0 hz0 hz1 hz2 rfl (by decide) _ _ _ w3 _ [.slice (some ⟨gg, 0, none⟩) j G] rfl (by exact MD3.out.row) (by rfl) rfl (by intro u hu; simp at hu; subst hu; rfl) (by unfold maxLen; omega) (by omega) hs3 ?_))
        intro v' w4 hown' hg4 hb4
        rw [← XV.out, ← HLK.out] at hown'
        have NEW := Lib.hid (MD3.out.app (x := ⟨gg, rest.take j ++ zeros (G - j), j⟩) ROW3.out XOK.out GB.out GN.out hown' hg4)
        have BL4 := Lib.hid (BL3.out.trans hb4)
        have x4 : w4.cell? ⟨bb, 0, none⟩ = some (.int .i64 (j : Int)) := by
          have h9 := (hg4.block bb (lt_of BX3.out) (fun e => by
            obtain ⟨c2, hc2⟩ := row_block MD3.out.row e.symm
            have h8 := BX3.out
            rw [h8] at hc2
            simp only [Option.some.injEq, Obj.cells.injEq] at hc2
            exact absurd hc2.2.1 (by decide))).trans BX3.out
          rw [cell_of h9]; rfl
        clear hown' hg4 hb4 MD3 BL3 ROW3 BX3
        go_wp2_with fail
        go_round
        case rel =>
          refine ⟨k + 1, L ++ [⟨gg, rest.take j ++ zeros (G - j), j⟩], rest.drop j, UA, n' - j, c' - j, by omega, by go_num, rfl, by rw [List.length_drop, HRL.out], by omega, by omega, RDN.out, fun z hz => RB'.out z (List.mem_of_mem_drop hz), by have := hsum.out; omega, ?_, by rw [List.length_append, HLK.out]; rfl, ?_, NEW.out, BL4.out, fun y hy => lt_of (NEW.out.mem y hy).1, by omega⟩
          · rw [List.map_append, List.map_singleton, XLC.out, List.append_assoc]
            exact HCU.out
          · intro y hy
            rcases List.mem_append.1 hy with hy | hy
            · exact HLN.out y hy
            · obtain rfl : y = _ := by simpa using hy
              exact ⟨jl1, jl2⟩
        case measure => simp [intOf]; omega
    · obtain rfl : k = js.length := by omega
      as_aux_lemma =>
        have hcut := HCU.out
        rw [List.drop_length] at hcut
        unfold cutC at hcut
        rw [List.append_nil] at hcut
        have FIN : Hid (MadeLv p os w (.returned u5) wr) := Lib.hid ⟨u5, L, rfl, ⟨row_low MD.out.row hs1, fun x hx => by
          obtain ⟨h1, h2, h3⟩ := MD.out.mem x hx
          exact ⟨h1, h2, Nat.le_trans hs1 h3⟩, MD.out.inj⟩, hcut, HLN.out, HB1.out.trans (BL.out.mono hs1)⟩
        clear hcut hlt hk hb
        go_wp2_with fail
        go_ret
        exact FIN.out

end Go.Proofs.Ytidfidknflcioaa
