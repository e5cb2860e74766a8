/-
  Groups: what it gives, for any slices. Conditions: the slices lie in rows.
-/
import Derived.Test.YtclpkmplifcfjaaWatchSlicesPbs
namespace Go.Proofs.Ytclpkmplifcfjaa
open Go.RowKit Go.Shelf
set_option linter.unusedVariables false

theorem pairsL_mem {f : Nat → Nat → Bool} {n i : Nat} {p : Nat × Nat} (h : p ∈ pairsL f n i) : p.1 < i ∧ p.2 < n ∧ p.1 < p.2 := by
  unfold pairsL at h
  obtain ⟨j, hj, hp⟩ := List.mem_flatMap.1 h
  unfold pairsI at hp
  obtain ⟨k, hk, rfl⟩ := List.mem_map.1 hp
  obtain ⟨h1, h2⟩ := List.mem_filter.1 hk
  simp only [Bool.and_eq_true, decide_eq_true_eq] at h2
  exact ⟨List.mem_range.1 hj, List.mem_range.1 h1, h2.1⟩
theorem spCells_get (sp : List (Nat × Nat)) (k : Nat) (p : Nat × Nat) (h : sp[k]? = some p) : (spCells sp)[k * 2]? = some (.int .i64 (p.1 : Int)) ∧ (spCells sp)[k * 2 + 1]? = some (.int .i64 (p.2 : Int)) := by
  induction sp generalizing k with
  | nil => simp at h
  | cons q sp ih =>
    have e : spCells (q :: sp) = .int .i64 (q.1 : Int) :: .int .i64 (q.2 : Int) :: spCells sp := by simp [spCells]
    rw [e]
    cases k with
    | zero => simp at h; subst h; exact ⟨rfl, rfl⟩
    | succ k =>
      have := ih k (by simpa using h)
      rw [Nat.succ_mul]
      exact ⟨by simpa using this.1, by simpa [Nat.add_assoc] using this.2⟩

theorem ownsRow_low {w : World} {B B' e size n : Nat} {v : Value} {xs : List Value} (h : w.ownsRow B e size v n xs) (hB : B' ≤ B) : w.ownsRow B' e size v n xs := by
  refine ⟨h.1, ?_⟩
  rcases h.2 with hn | ⟨g, cap, cur, rfl, hb, rest⟩
  · exact .inl hn
  · exact .inr ⟨g, cap, cur, rfl, Nat.le_trans hB hb, rest⟩
/-- As VisW, whatever the row is. -/
structure VisR (w : World) (z z1 Bl mb B N n : Nat) (S : Nat → Option (Nat × Nat × Nat)) (D : DataW Unit) (ps : List (Nat × Nat)) (rv : Value) (out : List Int) : Prop where
  o : w.heap[z]? = some (.cells #[rv] 35 (0, 0))
  v : w.heap[z1]? = some (.cells #[.func (.func 26) #[] #[.pointer (some ⟨z, 0, none⟩), .pointer (some ⟨Bl, 0, none⟩), .pointer (some ⟨z1, 0, none⟩)]] 66 (0, 0))
  l : w.heap[Bl]? = some (.cells #[.map (some mb)] 64 (0, 0))
  r : w.ownsRow B 3 1 rv n (out.map (Value.int .i64))
  m : Leads w B mb N n S D (ldOf ps)
  ne : ∀ a, a < n → ∀ k, (rowOf (S a)).ownBlock = some k → rv.ownBlock ≠ some k
theorem VisR.toW {w : World} {z z1 Bl mb g cap B N n : Nat} {S : Nat → Option (Nat × Nat × Nat)} {D : DataW Unit} {ps : List (Nat × Nat)} {out : List Int} (h : VisR w z z1 Bl mb B N n S D ps (.slice (some ⟨g, 0, none⟩) n cap) out) : VisW w z z1 Bl mb g cap B N n S D ps out :=
  ⟨h.o, h.v, h.l, h.r, h.m, fun a ha e => h.ne a ha g e rfl⟩
theorem VisW.toR {w : World} {z z1 Bl mb g cap B N n : Nat} {S : Nat → Option (Nat × Nat × Nat)} {D : DataW Unit} {ps : List (Nat × Nat)} {out : List Int} (h : VisW w z z1 Bl mb g cap B N n S D ps out) : VisR w z z1 Bl mb B N n S D ps (.slice (some ⟨g, 0, none⟩) n cap) out :=
  ⟨h.o, h.v, h.l, h.r, h.m, fun a ha k hk e => h.ne a ha (by rw [hk]; exact e.symm)⟩

def GrPairs (xs : List (Wn × Option Addr)) : List (Nat × Nat) := pairsL (meetB xs) xs.length xs.length
def GroupsXPost (xs : List (Wn × Option Addr)) (w : World) : Ending → World → Prop := fun e w' => Below w.heap.size w w' ∧
  ((chkL xs = 4 ∧ e = .returned (.tuple #[.slice none 0 0, .int .i64 4])) ∨
   (chkL xs = 0 ∧ ∃ v, e = .returned (.tuple #[v, .int .i64 0]) ∧ w'.ownsRow w.heap.size 3 1 v xs.length ((grp (GrPairs xs) xs.length xs.length).map (Value.int .i64))))

set_option maxHeartbeats 4000000 in
set_option maxRecDepth 100000 in
theorem groupsX_any (v : Value) (xs : List (Wn × Option Addr)) (M : Nat → Nat → Int) (len : Nat → Nat) (D : Nat → Prop) (w : World) (hl : LsIn w v xs) (hM : MemF w M len D) (hx : ∀ x ∈ xs, WnOk len D x.1 x.2) :
    Calls Try.prog 9 #[v] w (GroupsXPost xs w) := by
  have MX := meetsX_any v xs M len D w hl hM hx
  have HPM : Hid (∀ p ∈ GrPairs xs, p.1 < xs.length ∧ p.2 < xs.length ∧ p.1 < p.2) := Lib.hid (fun p hp => pairsL_mem hp)
  have hPL : (GrPairs xs).length ≤ xs.length * xs.length := pairsL_len _ _ _
  unfold MeetsPost at MX
  unfold GroupsXPost
  change Calls _ _ _ _ (fun e w' => Below w.heap.size w w' ∧ ((chkL xs = 4 ∧ e = .returned (.tuple #[.slice none 0 0, .int .i64 4])) ∨ (chkL xs = 0 ∧ ∃ v, e = .returned (.tuple #[v, .int .i64 0]) ∧ w'.ownsRow w.heap.size 57 2 v (GrPairs xs).length (spCells (GrPairs xs))))) at MX
  generalize GrPairs xs = P at *
  have HMX := Lib.hid MX
  have hl0 := hl
  obtain ⟨la, lc, rfl, hlen, hlc, hlm, _⟩ := hl0
  unfold maxLen at hlm
  clear MX hl hM hx
  have EN := Lib.hid (enters_of Try.func26 (by kernel_rfl) rfl)
  go_enter Try.func9, Try.ntmps9
  go_wp2_with fail
  refine HMX.out.mono ?_
  rintro e w2 ⟨hb2, hway⟩
  have B2 := Lib.hid hb2
  rcases hway with ⟨he, rfl⟩ | ⟨he, pv, rfl, hrow⟩
  · have HE := Lib.hid he
    clear he hb2
    go_wp2_with fail
    go_ret2
    exact ⟨B2.out, Or.inl ⟨HE.out, rfl⟩⟩
  · have HE := Lib.hid he
    have hn100 := (chkL_ok he).1
    have hn1000 : xs.length ≤ 1000 := by omega
    have hP : P.length ≤ 10000 := Nat.le_trans hPL (Nat.le_trans (Nat.mul_le_mul hn100 hn100) (by decide))
    clear hPL
    obtain ⟨pa, pc, hpv⟩ := wrow_sh hrow
    subst hpv
    have MK : (Instr.makeMap 64 none).run Try.prog w2 = .ok (.map (some w2.heap.size)) (w2.alloc (.map #[] 0)) := by kernel_rfl
    have hown := World.ownsMap_made w2 Try.prog 3 rowElem
    have hs2 := B2.out.size
    obtain ⟨mb, hmb⟩ : ∃ mb, w2.heap.size = mb := ⟨_, rfl⟩
    have B3 := Lib.hid (B2.out.trans ((Below.refl w.heap.size w2).alloc B2.out.size (.map #[] 0)))
    have hrow3 := ownsRow_same hrow (w' := w2.alloc (.map #[] 0)) (fun k hk => heap_alloc_old w2 _ (hrow.lt k hk).2)
    rw [hmb] at MK hown
    have hsz3 : (w2.alloc (.map #[] 0)).heap.size = mb + 1 := by rw [← hmb]; simp
    have hwm : w.heap.size ≤ mb := by omega
    generalize w2.alloc (.map #[] 0) = w3 at *
    have HM := Lib.hid hown
    have HR3 := Lib.hid hrow3
    clear he hb2 hrow hown hmb hrow3
    go_wp2_with fail
    have hb4 : (w3.alloc (.cells #[.map (some mb)] 64)).heap[mb + 1]? = some (.cells #[.map (some mb)] 64 (0, 0)) := by rw [← hsz3]; exact heap_alloc_new w3 _
    have hs3 := B3.out.size
    have B4 := Lib.hid (B3.out.trans ((Below.refl w.heap.size w3).alloc hs3 (.cells #[.map (some mb)] 64)))
    have HM4 := Lib.hid (HM.out.alloc (.cells #[.map (some mb)] 64))
    have HR4 := Lib.hid (ownsRow_same HR3.out (w' := w3.alloc (.cells #[.map (some mb)] 64)) (fun k hk => heap_alloc_old w3 _ (HR3.out.lt k hk).2))
    obtain ⟨Bl, hBl⟩ : ∃ Bl, mb + 1 = Bl := ⟨_, rfl⟩
    rw [hBl] at hb4
    rw [hBl]
    generalize w3.alloc (.cells #[.map (some mb)] 64) = w4 at *
    have G0 : Hid (∃ S D, GI w w4 Bl mb (2 * 0) xs.length S D (ldOf (P.take 0)) (.slice pa P.length pc) P) := Lib.hid ⟨_, _, hb4, Leads.start HM4.out, HR4.out, B4.out, by omega, hwm⟩
    clear hb4 hs3 HM HM4 HR3 HR4 B3 B4
    have HPL := Lib.hid hP
    go_loopw [23] (fun i wr => ∃ k : Nat, k ≤ P.length ∧ i = .int .i64 k ∧ ∃ S D, GI w wr Bl mb (2 * k) xs.length S D (ldOf (P.take k)) (.slice pa P.length pc) P) (fun i _ => P.length - (intOf i).toNat)
    case atStart => exact ⟨0, Nat.zero_le _, rfl, G0.out⟩
    case round =>
      obtain ⟨k, hk, rfl, S, DD, hgi⟩ := hrel
      have HG := Lib.hid hgi
      clear G0
      by_cases hlt : k < P.length
      · obtain ⟨⟨A, C⟩, hp⟩ : ∃ p, P[k]? = some p := ⟨_, List.getElem?_eq_getElem hlt⟩
        obtain ⟨p1, p2, p3⟩ := HPM.out _ (List.mem_of_getElem? hp)
        simp only at p1 p2 p3
        obtain ⟨q1, q2⟩ := spCells_get P k _ hp
        obtain ⟨g0, hg0, cA, _⟩ := wrow_cell hgi.pr q1
        subst hg0
        obtain ⟨g1, hg1, cC, _⟩ := wrow_cell hgi.pr q2
        simp only [Option.some.injEq, Addr.mk.injEq, and_true] at hg1
        subst hg1
        have HTK : Hid (∀ j, ldOf (P.take (k + 1)) j = ldOf (P.take k) j ++ ((if A = j then [C] else []) ++ (if C = j then [A] else []))) := Lib.hid (fun j => by rw [List.take_add_one, hp]; exact ldOf_snoc _ _ j)
        have hLk : ∀ j, (ldOf (P.take k) j).length ≤ 2 * k := fun j => Nat.le_trans (ldOf_len _ _) (by rw [List.length_take]; omega)
        have HLk := Lib.hid hLk
        clear hp q1 q2 hgi hLk
        have hmul : k * 2 + 1 < P.length * 2 := by omega
        go_upto_region 8 with fail
        have hX : GX wr.heap.size A C (wr.alloc (.cells #[.int .i64 (A : Int), .int .i64 (C : Int)] 57)) := heap_alloc_new wr _
        have hG1 : GI w (wr.alloc (.cells #[.int .i64 (A : Int), .int .i64 (C : Int)] 57)) Bl mb (2 * k) xs.length S DD (ldOf (P.take k)) (.slice (some ⟨g0, 0, none⟩) P.length pc) P := by
          obtain ⟨a1, a2, a3, a4, a5, a6⟩ := HG.out
          exact ⟨(heap_alloc_old wr _ (lt_of a1)).trans a1, a2.same (heap_alloc_old wr _ a2.map.lt) (fun j k hj hk => heap_alloc_old wr _ ((a2.row j hj).lt k hk).2), ownsRow_same a3 (fun k hk => heap_alloc_old wr _ (a3.lt k hk).2), a4.alloc a4.size _, a5, a6⟩
        clear cA cC
        obtain ⟨b, hb⟩ : ∃ b, wr.heap.size = b := ⟨_, rfl⟩
        rw [hb] at hX ⊢
        generalize wr.alloc (.cells #[.int .i64 (A : Int), .int .i64 (C : Int)] 57) = W1 at *
        have HX := Lib.hid hX
        have HG1 := Lib.hid hG1
        clear hX hG1 HG hb
        have hkk : 2 * k < 100000 := by omega

        obtain ⟨nl, hnl⟩ : ∃ nl, (ldOf (P.take k) A).length = nl := ⟨_, rfl⟩
        obtain ⟨ra, rc, hrv, S0, S1, g, cap, w', hrun, S2, w3, hrun3, hgi3, hgx3⟩ := gi_put HG1.out HX.out (key := A) (x := C) (by omega) hn1000 (by omega) (by have := HLk.out A; omega) nl hnl
        have s0 : ∀ y : WIn (LeadS Bl b mb A C A (.slice ra nl rc)), y.w.cell? ⟨Bl, 0, none⟩ = some (.map (some mb)) := fun y => y.h.1
        have s1 : ∀ y : WIn (LeadS Bl b mb A C A (.slice ra nl rc)), y.w.cell? ⟨b, 0, none⟩ = some (.int .i64 (A : Int)) := fun y => y.h.2.1
        have s2 : ∀ y : WIn (LeadS Bl b mb A C A (.slice ra nl rc)), y.w.cell? ⟨b, 1, none⟩ = some (.int .i64 (C : Int)) := fun y => y.h.2.2.1
        have s3 : ∀ y : WIn (LeadS Bl b mb A C A (.slice ra nl rc)), (Instr.lookup 64 (.map (some mb)) (.int .i64 (A : Int)) false).run Try.prog y.w = .ok (.slice ra nl rc) y.w := fun y => y.h.2.2.2
        haveI ne : Nonempty (WIn (LeadS Bl b mb A C A (.slice ra nl rc))) := ⟨⟨W1.drew, S0⟩⟩
        have HGI3 := Lib.hid hgi3
        have HGX3 := Lib.hid hgx3
        clear hgi3 hgx3 hrv hnl
        refine wp_normal ?_
        refine wp_region_plan 11 (LeadS Bl b mb A C A (.slice ra nl rc)) rfl ?_
        refine wpN_seg [0, 1, 2, 3, 4, 5, 6, 7, 8] (by kernel_rfl) (by kernel_rfl) (by kernel_rfl) (by kernel_rfl) (by decide) (fun _ _ _ _ _ h => h) S0 ?_
        simp only [pick, List.map_cons, List.map_nil, List.getElem?_cons_succ, List.getElem?_cons_zero, Option.getD_some]
        repeat (go_big_quiet_step (fail))
        refine wpQuiet_nil ?_
        refine wpN_one 9 _ (by kernel_rfl) rfl ?_
        refine NextAt.held ?_
        intro K hK
        go_simp
        refine hK _ _ S1 ?_
        clear hK K
        refine wpN_one 10 _ (by kernel_rfl) rfl ?_
        refine NextAt.held ?_
        intro K hK
        refine step_append_known rfl _ _ _ rfl _ _ _ (by go_simp) (by go_simp) hrun (hK _ _ S2 ?_)
        clear hK K
        refine wpN_one 11 _ (by kernel_rfl) rfl ?_
        refine NextAt.free (by kernel_rfl) ?_
        intro K hK
        refine step_update_known rfl _ _ _ _ rfl _ _ _ (by go_simp) (by go_simp) (by go_simp) hrun3 (hK _ _ ?_)
        clear hK K
        refine wpN_done (by kernel_rfl) ?_
        clear s0 s1 s2 s3 ne S0 S1 S2 hrun hrun3
        obtain ⟨S', D', hgi3⟩ := HGI3.out
        have HG2 := Lib.hid hgi3
        clear HGI3 hgi3 HX HG1
        have HX := Lib.hid HGX3.out
        clear HGX3
        go_upto_region 9 with fail
        obtain ⟨nl, hnl⟩ : ∃ nl, ((fun j => if j = A then ldOf (P.take k) A ++ [C] else ldOf (P.take k) j) C).length = nl := ⟨_, rfl⟩
        obtain ⟨ra, rc, hrv, S0, S1, g, cap, w', hrun, S2, w5, hrun3, hgi3, hgx3⟩ := gi_put HG2.out HX.out (key := C) (x := A) (by omega) hn1000 (by omega) (by have := HLk.out C; have h1 : ¬ C = A := (by omega); simp only [if_neg h1]; omega) nl hnl
        have s0 : ∀ y : WIn (LeadS Bl b mb A C C (.slice ra nl rc)), y.w.cell? ⟨Bl, 0, none⟩ = some (.map (some mb)) := fun y => y.h.1
        have s1 : ∀ y : WIn (LeadS Bl b mb A C C (.slice ra nl rc)), y.w.cell? ⟨b, 0, none⟩ = some (.int .i64 (A : Int)) := fun y => y.h.2.1
        have s2 : ∀ y : WIn (LeadS Bl b mb A C C (.slice ra nl rc)), y.w.cell? ⟨b, 1, none⟩ = some (.int .i64 (C : Int)) := fun y => y.h.2.2.1
        have s3 : ∀ y : WIn (LeadS Bl b mb A C C (.slice ra nl rc)), (Instr.lookup 64 (.map (some mb)) (.int .i64 (C : Int)) false).run Try.prog y.w = .ok (.slice ra nl rc) y.w := fun y => y.h.2.2.2
        haveI ne : Nonempty (WIn (LeadS Bl b mb A C C (.slice ra nl rc))) := ⟨⟨w3.drew, S0⟩⟩
        have HGI3 := Lib.hid hgi3
        have HGX3 := Lib.hid hgx3
        clear hgi3 hgx3 hrv hnl
        refine wp_normal ?_
        refine wp_region_plan 11 (LeadS Bl b mb A C C (.slice ra nl rc)) rfl ?_
        refine wpN_seg [0, 1, 2, 3, 4, 5, 6, 7, 8] (by kernel_rfl) (by kernel_rfl) (by kernel_rfl) (by kernel_rfl) (by decide) (fun _ _ _ _ _ h => h) S0 ?_
        simp only [pick, List.map_cons, List.map_nil, List.getElem?_cons_succ, List.getElem?_cons_zero, Option.getD_some]
        repeat (go_big_quiet_step (fail))
        refine wpQuiet_nil ?_
        refine wpN_one 9 _ (by kernel_rfl) rfl ?_
        refine NextAt.held ?_
        intro K hK
        go_simp
        refine hK _ _ S1 ?_
        clear hK K
        refine wpN_one 10 _ (by kernel_rfl) rfl ?_
        refine NextAt.held ?_
        intro K hK
        refine step_append_known rfl _ _ _ rfl _ _ _ (by go_simp) (by go_simp) hrun (hK _ _ S2 ?_)
        clear hK K
        refine wpN_one 11 _ (by kernel_rfl) rfl ?_
        refine NextAt.free (by kernel_rfl) ?_
        intro K hK
        refine step_update_known rfl _ _ _ _ rfl _ _ _ (by go_simp) (by go_simp) (by go_simp) hrun3 (hK _ _ ?_)
        clear hK K
        refine wpN_done (by kernel_rfl) ?_
        clear s0 s1 s2 s3 ne S0 S1 S2 hrun hrun3
        obtain ⟨S', D', hgi3⟩ := HGI3.out
        have HG3 := Lib.hid hgi3
        clear HGI3 hgi3 HX HG2
        have HX := Lib.hid HGX3.out
        clear HGX3
        go_wp2_with fail
        go_round
        case rel =>
          have h3 := HG3.out
          have e2 : 2 * (k + 1) = 2 * k + 1 + 1 := by omega
          have hfin : GI w w5 Bl mb (2 * (k + 1)) xs.length S' D' (ldOf (P.take (k + 1))) (.slice (some ⟨g0, 0, none⟩) P.length pc) P := by
            rw [e2]
            refine ⟨h3.l, h3.m.congr (fun j hj => ?_), h3.pr, h3.be, h3.bl, h3.bm⟩
            rw [HTK.out j]
            have hca : ¬ C = A := by omega
            by_cases e1 : j = C
            · subst e1
              rw [if_pos rfl, if_neg hca, if_neg (Ne.symm hca), if_pos rfl]
              simp
            · by_cases e3 : j = A
              · subst e3
                rw [if_neg e1, if_pos rfl, if_pos rfl, if_neg (Ne.symm e1)]
                simp
              · rw [if_neg e1, if_neg e3, if_neg (Ne.symm e3), if_neg (Ne.symm e1)]
                simp
          exact ⟨k + 1, by omega, by go_num, _, _, hfin⟩
        case measure => simp [intOf]; omega
      · obtain rfl : k = P.length := by omega
        obtain ⟨a1, a2, a3, a4, a5, a6⟩ := hgi
        rw [List.take_length] at a2
        have hwr := a4.size
        have LB := Lib.hid a1
        have LM := Lib.hid a2
        have BE := Lib.hid a4
        have RP := Lib.hid (repeat_any wr.heap.size (-1) xs.length (wr.alloc (.cells #[.int .i64 (-1)] 3)) (by rw [cell_of (heap_alloc_new wr _)]; rfl) (by omega))
        have B5 := Lib.hid (a4.alloc hwr (.cells #[.int .i64 (-1)] 3))
        clear a1 a2 a3 a4 HG hlt hk
        go_wp2_with fail
        refine RP.out.mono ?_
        rintro e w5 ⟨rv, rfl, hrow5, hb5⟩
        have hsa : (wr.alloc (.cells #[.int .i64 (-1)] 3)).heap.size = wr.heap.size + 1 := by simp
        obtain ⟨ra, rc, hrv⟩ := wrow_sh hrow5
        subst hrv
        have hs5 : wr.heap.size + 1 ≤ w5.heap.size := by have := hb5.size; omega
        have B6 := Lib.hid (B5.out.trans (hb5.mono (by omega)))
        have hold : ∀ k, k < wr.heap.size → w5.heap[k]? = wr.heap[k]? := fun k hk => (hb5.block k (by omega)).trans (heap_alloc_old wr _ hk)
        have H1 := Lib.hid ((hold Bl (lt_of LB.out)).trans LB.out)
        have HL5 := Lib.hid (LM.out.same (hold mb LM.out.map.lt) (fun j k hj hk => hold k ((LM.out.row j hj).lt k hk).2))
        have HNE : Hid (∀ a k, a < xs.length → (rowOf (S a)).ownBlock = some k → (Value.slice ra xs.length rc).ownBlock ≠ some k) := Lib.hid (fun a k ha hk e => by
          have h1 := ((LM.out.row a ha).lt k hk).2
          have h2 := (hrow5.lt k e).1
          omega)
        rw [hsa] at hrow5
        have ROW5 := Lib.hid (ownsRow_low hrow5 (show w.heap.size ≤ wr.heap.size + 1 by omega))
        clear hb5 hrow5 hsa hold LB LM BE RP B5
        obtain ⟨z, hz⟩ : ∃ z, w5.heap.size = z := ⟨_, rfl⟩
        rw [hz] at hs5
        go_upto_region 13 with fail
        obtain ⟨W7, hW7⟩ : ∃ W, (w5.alloc (.cells #[.slice ra xs.length rc] 35)).alloc (.cells #[.nilFunc] 66) = W := ⟨_, rfl⟩
        have n0 : (w5.alloc (.cells #[.slice ra xs.length rc] 35)).heap[z]? = some (.cells #[.slice ra xs.length rc] 35 (0, 0)) := by rw [← hz]; exact heap_alloc_new w5 _
        have nz : (w5.alloc (.cells #[.slice ra xs.length rc] 35)).heap.size = z + 1 := by simp; omega
        have o7 : ∀ k, k < z → W7.heap[k]? = w5.heap[k]? := fun k hk => by rw [← hW7]; exact (heap_alloc_old _ _ (by omega)).trans (heap_alloc_old _ _ (by omega))
        have b7 : W7.heap[z]? = some (.cells #[.slice ra xs.length rc] 35 (0, 0)) := by rw [← hW7]; exact (heap_alloc_old _ _ (by omega)).trans n0
        have v7 : W7.heap[z + 1]? = some (.cells #[.nilFunc] 66 (0, 0)) := by rw [← hW7, ← nz]; exact heap_alloc_new _ _
        have fv : W7.frozen? ⟨z + 1, 0, none⟩ = false := free_of v7 _
        have cv : W7.cell? ⟨z + 1, 0, none⟩ = some .nilFunc := by rw [cell_of v7]; rfl
        have B7 := Lib.hid (show Below w.heap.size w W7 by rw [← hW7]; exact B6.out.trans (((Below.refl w.heap.size w5).alloc B6.out.size _).alloc (by have := B6.out.size; omega) _))
        have ROW7 := Lib.hid (ownsRow_same ROW5.out (w' := W7) (fun j hj => o7 j (by have := (ROW5.out.lt j hj).2; omega)))
        have K1 := Lib.hid ((o7 Bl (by have := lt_of H1.out; omega)).trans H1.out)
        have HL7 := Lib.hid (HL5.out.same (w' := W7) (o7 mb (by have := HL5.out.map.lt; omega)) (fun j k hj hk => o7 k (by have := ((HL5.out.row j hj).lt k hk).2; omega)))
        have HB7 := Lib.hid b7
        have HV7 := Lib.hid v7
        have hzw : w.heap.size ≤ z := by have := B6.out.size; omega
        rw [hW7]
        clear n0 nz o7 b7 v7 hW7 hz HL5 H1 ROW5 B6
        have VA : VisR (W7.setCell ⟨z + 1, 0, none⟩ (.func (.func 26) #[] #[.pointer (some ⟨z, 0, none⟩), .pointer (some ⟨Bl, 0, none⟩), .pointer (some ⟨z + 1, 0, none⟩)])) z (z + 1) Bl mb w.heap.size (2 * P.length) xs.length S DD P (.slice ra xs.length rc) (grp P xs.length 0) := by
          have ty : ∀ (k : Nat) cs t, W7.heap[k]? = some (.cells cs t (0, 0)) → t ≠ 66 → k ≠ z + 1 := fun k cs t h1 h2 h3 => by
            rw [h3, HV7.out] at h1
            simp only [Option.some.injEq, Obj.cells.injEq] at h1
            exact h2 h1.2.1.symm
          refine ⟨(Below.heap_setCell _ _ _ _ (by show z ≠ z + 1; omega)).trans HB7.out, by rw [block_setCell HV7.out]; rfl, (Below.heap_setCell _ _ _ _ (ty Bl _ _ K1.out (by decide))).trans K1.out, ?_, HL7.out.same (Below.heap_setCell _ _ _ _ (fun e => ?_)) (fun j k hj hk => Below.heap_setCell _ _ _ _ (fun e => ?_)), fun a ha k hk => HNE.out a k ha hk⟩
          · have h0 : grp P xs.length 0 = List.replicate xs.length (-1) := rfl
            rw [h0, List.map_replicate]
            refine ownsRow_same ROW7.out (fun j hj => Below.heap_setCell _ _ _ _ (fun e => ?_))
            obtain ⟨cur, hg⟩ := row_block ROW7.out hj
            exact ty j _ _ hg (by decide) e
          · have e' : mb = z + 1 := e
            obtain ⟨es, clock, h5, _⟩ := HL7.out.map
            rw [e', HV7.out] at h5; cases h5
          · obtain ⟨cur, hg⟩ := row_block (HL7.out.row j hj) hk
            exact ty k _ _ hg (by decide) e
        have HVA := Lib.hid VA
        have B8 := Lib.hid (B7.out.setCell (p := ⟨z + 1, 0, none⟩) (by show w.heap.size ≤ z + 1; omega) (.func (.func 26) #[] #[.pointer (some ⟨z, 0, none⟩), .pointer (some ⟨Bl, 0, none⟩), .pointer (some ⟨z + 1, 0, none⟩)]))
        have HLD : Hid (∀ a, (ldOf P a).length ≤ 100000) := Lib.hid (fun a => Nat.le_trans (ldOf_len P a) (by have := HPL.out; omega))
        clear VA
        go_wp2_with fail
        go_loopw [57] (fun i wr => ∃ k : Nat, k ≤ xs.length ∧ i = .int .i64 k ∧ VisR wr z (z + 1) Bl mb w.heap.size (2 * P.length) xs.length S DD P (.slice ra xs.length rc) (grp P xs.length k) ∧ Below w.heap.size w wr) (fun i _ => xs.length - (intOf i).toNat)
        case atStart => exact ⟨0, Nat.zero_le _, rfl, HVA.out, B8.out⟩
        case round =>
          obtain ⟨k, hk, rfl, hva, hbk⟩ := hrel
          have VK := Lib.hid hva
          have BK := Lib.hid hbk
          have c1 := (cell_of hva.o 0).trans rfl
          have c2 := (cell_of hva.v 0).trans rfl
          by_cases hlt : k < xs.length
          · have hgl : (grp P xs.length k).length = xs.length := (grp_ok P xs.length (fun p hp => ⟨(HPM.out p hp).1, (HPM.out p hp).2.1⟩) k (by omega)).len
            obtain ⟨g, hg, cgx, fgx⟩ := wrow_cell hva.r (show ((grp P xs.length k).map (Value.int .i64))[k]? = some _ from List.getElem?_eq_getElem (by rw [List.length_map, hgl]; exact hlt))
            subst hg
            have VI := Lib.hid (vis_any P xs.length (fun p hp => ⟨(HPM.out p hp).1, (HPM.out p hp).2.1⟩) hn1000 HLD.out z (z + 1) Bl mb g rc w.heap.size (2 * P.length) S DD k (xs.length + 1) (grp P xs.length k) k wr hgl hlt (Nat.lt_succ_of_le (cntD_le _ _)) hva.toW)
            have hgw := (hva.r.lt g rfl).1
            have eg := EN.out
            clear hva hbk cgx fgx
            go_wp2_with fail
            refine VI.out.mono ?_
            rintro e w9 ⟨rfl, hv9, ht9⟩
            have HV9 := Lib.hid hv9.toR
            have B9 := Lib.hid (BK.out.trans (ht9.below (B := w.heap.size) BK.out.size (fun j hj => by rw [hj]; exact hgw)))
            clear hv9 ht9
            go_wp2_with fail
            go_round
            case rel => exact ⟨k + 1, by omega, by go_num, HV9.out, B9.out⟩
            case measure => simp [intOf]; omega
          · obtain rfl : k = xs.length := by omega
            clear hlt hk hva hbk
            go_wp2_with fail
            go_ret2
            exact ⟨BK.out, Or.inr ⟨HE.out, _, rfl, VK.out.r⟩⟩

end Go.Proofs.Ytclpkmplifcfjaa
