/-
  The walk of the reference's ReadEntriesOf. Conditions: Go's own variables, and the reference's words, hold what their initialisers lay.
-/
import Derived.Test.YtifibhaalepmgaaDoorEntOf
namespace Go.Proofs.YtifibhaalepmgaaDoor
open Go Go.RowKit
set_option linter.unusedVariables false

set_option maxHeartbeats 8000000 in
set_option maxRecDepth 100000 in
theorem readEntriesOf_any (s : ByteArray) (w : World) (hl : LibAt w) (hw : WordsAt 1 entXs w) :
    Calls Tryd.prog 25 #[.string s] w (ReadPost (readEns s.data.toList) w) := by
  obtain ⟨i0, hi0, hz0, hz1, hz2⟩ := info_parts infoEntry
  have el : s.data.toList.length = s.size := Array.length_toList
  have LL : Hid (∀ {w' : World}, Below w.heap.size w w' → LibAt w') := Lib.hid (fun h => hl.below h)
  have WW : Hid (∀ {w' : World}, Below w.heap.size w w' → WordsAt 1 entXs w') := Lib.hid (fun h => hw.below h)
  have CL := Lib.hid (count_line s w)
  clear hl hw
  by_cases hz : 500000 < s.size
  · have ER := Lib.hid (show readEns s.data.toList = ([], 4) by unfold readEns; rw [if_pos (Or.inr (by omega))])
    have hz' : 500000 < (s.size : Int) := by omega
    clear el
    go_enter Tryd.func25, Tryd.ntmps25
    go_wp2_with fail
    go_ret2
    exact readPost_nil 4 ER.out (Below.refl _ _)
  have hz' : ¬ 500000 < (s.size : Int) := by omega
  by_cases hn : 5000 < s.data.toList.count 10
  · have ER := Lib.hid (show readEns s.data.toList = ([], 4) by unfold readEns; rw [if_pos (Or.inl hn)])
    have hn' : 5000 < ((s.data.toList.count 10 : Nat) : Int) := by omega
    clear el
    generalize s.data.toList.count 10 = N at *
    go_enter Tryd.func25, Tryd.ntmps25
    go_wp2_with fail
    refine CL.out.mono ?_
    rintro e w1 ⟨rfl, rfl⟩
    go_wp2_with fail
    go_ret2
    exact readPost_nil 4 ER.out (Below.refl _ _)
  have hn' : ¬ 5000 < ((s.data.toList.count 10 : Nat) : Int) := by omega
  have E0 := Lib.hid (show readEns s.data.toList = endEn (restEn s.data.toList) by unfold readEns; rw [if_neg (by omega)])
  rw [E0.out]
  clear el
  generalize s.data.toList.count 10 = N at *
  go_enter Tryd.func25, Tryd.ntmps25
  go_wp2_with fail
  refine CL.out.mono ?_
  rintro e w1 ⟨rfl, rfl⟩
  go_wp2_with fail
  go_loopw [0, 4] (fun sv v wr => ∃ (r : ByteArray) (M : List En), sv = .string r ∧ RestTo s.data.toList r.data.toList M ∧ M.length + r.size ≤ s.size ∧ wr.ownsRow w.heap.size 44 6 v M.length (ensCells M) ∧ Below w.heap.size w wr) (fun sv _ _ => strLen sv)
  case atStart => exact ⟨s, [], rfl, RestTo.zero _, by simp, World.ownsRow_nil _ _ _ _, Below.refl _ _⟩
  case round =>
    obtain ⟨r, M, rfl, hrt, hml, how, hbr⟩ := hrel
    have RT := Lib.hid hrt
    have OW := Lib.hid how
    have BX := Lib.hid hbr
    have hsx := hbr.size
    clear hrt how hbr
    by_cases hr0 : r.toList = []
    · have hrd : r.data.toList = [] := by rw [← ByteArray.toList_eq]; exact hr0
      have RA := RT.out
      rw [hrd] at RA
      have LAll := Lib.hid (RestTo.all RA)
      have EI := Lib.hid (EnsIn.own (L := M) OW.out (by omega))
      have FT := entriesFault_any _ M wr EI.out
      have hle : ∀ n, listErr M = n → (n = 0 → endEn (some M) = (M, 0)) ∧ (n ≠ 0 → endEn (some M) = ([], n)) := fun n hn => ⟨fun h => by unfold endEn; simp only; rw [if_pos (hn.trans h)], fun h => by unfold endEn; simp only; rw [if_neg (by rw [hn]; exact h), hn]⟩
      unfold FaultPost at FT
      have HLE := Lib.hid hle
      generalize hpe : listErr M = pe at *
      have HFT := Lib.hid FT
      clear RA FT hpe hle hrd
      go_wp2_with fail
      refine HFT.out.mono ?_
      rintro e w5 ⟨rfl, hb5⟩
      have B5 := Lib.hid (BX.out.trans (hb5.mono hsx))
      have EI5 := Lib.hid (EI.out.below hb5)
      clear hb5
      by_cases hp : pe = 0
      · have ER := Lib.hid ((congrArg endEn LAll.out).trans ((HLE.out _ rfl).1 hp))
        have hp' : (pe == 0) = true := by simp [hp]
        have HP := Lib.hid hp
        clear hp
        go_wp2_with fail
        go_ret2
        exact readPost_ok _ M (ER.out.trans rfl) EI5.out B5.out
      · have ER := Lib.hid ((congrArg endEn LAll.out).trans ((HLE.out _ rfl).2 hp))
        have hp' : (pe == 0) = false := by simpa using hp
        have HP := Lib.hid hp
        clear hp
        go_wp2_with fail
        go_ret2
        exact readPost_nil pe ER.out B5.out
    · have hr1 : r.toList.isEmpty = false := by simpa using hr0
      have hrd := Lib.hid (show r.data.toList ≠ [] by rw [← ByteArray.toList_eq]; exact hr0)
      have CU := Lib.hid (cut_line r wr (by omega) (LL.out BX.out))
      go_wp2_with fail
      refine CU.out.mono ?_
      rintro e w1 ⟨l, t, f, rfl, hcl, hct, hcf, hlz, htz, hb1⟩
      have HCL := Lib.hid hcl
      have HCT := Lib.hid hct
      have HCF := Lib.hid hcf
      have HTZ := Lib.hid htz
      have B1 := Lib.hid (BX.out.trans (hb1.mono hsx))
      have OW1 := Lib.hid (own_below OW.out hb1)
      have hs1 := B1.out.size
      have SP := Lib.hid (split_any l w1 (by omega) (LL.out B1.out))
      clear hcl hct hcf htz hb1
      go_wp2_with fail
      refine SP.out.mono ?_
      rintro e w2 ⟨ps, hps, hpz, B, rfl, hB, hblk, hb2⟩
      have HPS := Lib.hid hps
      have HPZ := Lib.hid hpz
      have HBL := Lib.hid hblk
      have B2 := Lib.hid (B1.out.trans (hb2.mono hs1))
      have OW2 := Lib.hid (own_below OW1.out hb2)
      have hlt := lt_of hblk
      have hs2 := B2.out.size
      clear hps hpz hblk hb2
      rcases ps with _ | ⟨a, q⟩
      · exact absurd HPS.out.symm (parts_ne _ _)
      have ca : w2.cell? ⟨B, 0, none⟩ = some (.string a) := by rw [cell_of HBL.out]; rfl
      have HL0 : 0 < (a :: q).length := by simp
      obtain ⟨gb, go, gc, hg0, hgk⟩ := WW.out B2.out
      replace hg0 : w2.cell? ⟨1, 0, none⟩ = some (.slice (some ⟨gb, go, none⟩) 12 gc) := hg0
      have IX := Lib.hid (fun W (hW : Below w2.heap.size w2 W) => index_ent gb go gc a W (fun k y hy => (hW.cell (p := ⟨gb, go + k, none⟩) (World.block_lt_of_cell? w2 _ (hgk k y hy))).trans (hgk k y hy)))
      have hlg := World.block_lt_of_cell? w2 _ hg0
      obtain ⟨kr1, kr2, hkk⟩ := kindE_ref a
      change _ ≤ Lib.idxOfS entXs a at kr1
      change Lib.idxOfS entXs a ≤ _ at kr2
      change (_ ∧ Lib.idxOfS entXs a = _) ∨ (_ ∧ Lib.idxOfS entXs a < _) at hkk
      generalize hI : Lib.idxOfS entXs a = K at *
      have KK := Lib.hid hkk
      clear hkk hI hgk
      go_upto_region 8 with fail
      go_cut [9] (fun s9 wx => s9 = .int .i64 K ∧ Below w2.heap.size w2 wx)
      case first =>
        go_region_with (go_at_call 37; refine (IX.out _ (by go_grown)).mono ?_; rintro e w3 ⟨rfl, rfl⟩)
        all_goals
          go_wp2_with fail
          go_meet
          exact ⟨rfl, by go_grown⟩
      case rest =>
        obtain ⟨rfl, hbx⟩ := hcut
        have BC := Lib.hid (B2.out.trans (hbx.mono hs2))
        have PSB := Lib.hid ((hbx.block B hlt).trans HBL.out)
        have OWC := Lib.hid (own_below OW2.out hbx)
        have hsc := BC.out.size
        have HPA : Hid (parts 32 l.data.toList = a.data.toList :: q.map (·.data.toList)) := Lib.hid HPS.out.symm
        clear hbx hg0 hlg ca
        have BAD : Hid ((f = false ∨ lineEn l.data.toList = none) → endEn (restEn s.data.toList) = ([], 8)) := Lib.hid (fun h => by
          rw [RT.out.bad hrd.out (by rw [← HCF.out, ← HCL.out]; exact h)]; rfl)
        cases f with
        | false =>
          have ER := Lib.hid (BAD.out (Or.inl rfl))
          go_wp2_with fail
          go_ret2
          exact readPost_nil 8 ER.out BC.out
        | true =>
          by_cases hK1 : K < 1
          · have ER := Lib.hid (BAD.out (Or.inr (lineEn_kind HPA.out (by rw [kindE_at]; rcases KK.out with x | x <;> omega))))
            go_wp2_with fail
            go_ret2
            exact readPost_nil 8 ER.out BC.out
          have hkk : kindE a = K := by rcases KK.out with x | x <;> omega
          have HK := Lib.hid hkk
          clear hkk
          by_cases h5 : q.length = 5
          case neg =>
            have ER := Lib.hid (BAD.out (Or.inr (lineEn_short HPA.out (by simpa using h5))))
            have hl6 : ¬ ((q.length : Int) + 1 = 6) := by omega
            go_wp2_with fail
            go_ret2
            exact readPost_nil 8 ER.out BC.out
          case pos =>
            obtain ⟨q0, q1, q2, q3, q4, rfl⟩ : ∃ q0 q1 q2 q3 q4, q = [q0, q1, q2, q3, q4] := by
              match q, h5 with
              | [q0, q1, q2, q3, q4], _ => exact ⟨_, _, _, _, _, rfl⟩
            have LN := Lib.hid (lineEn_nums HPA.out (by simp) (by rw [kindE_at, HK.out]; omega))
            obtain ⟨qs, hqs⟩ : ∃ qs, qs = [q0, q1, q2, q3, q4].map (·.data.toList) := ⟨_, rfl⟩
            rw [← hqs] at LN
            have HQS := Lib.hid hqs
            have hq5 : qs.length = 5 := by rw [hqs]; rfl
            clear hqs
            have QC : Hid (∀ (m : Nat) (W : World), m < 5 → W.heap[B]? = some (.cells #[.string a, .string q0, .string q1, .string q2, .string q3, .string q4] 9 (0, 0)) → ∃ x : ByteArray, W.cell? ⟨B, m + 1, none⟩ = some (.string x) ∧ x.data.toList = qs.getD m [] ∧ x.size ≤ 1000000) := Lib.hid (fun m W hm hW => by
              have z := fun x hx => Nat.le_trans (HPZ.out x hx) (show l.size ≤ 1000000 by omega)
              rw [HQS.out, cell_of hW]
              rcases (show m = 0 ∨ m = 1 ∨ m = 2 ∨ m = 3 ∨ m = 4 by omega) with rfl | rfl | rfl | rfl | rfl
              · exact ⟨q0, rfl, rfl, z q0 (by simp)⟩
              · exact ⟨q1, rfl, rfl, z q1 (by simp)⟩
              · exact ⟨q2, rfl, rfl, z q2 (by simp)⟩
              · exact ⟨q3, rfl, rfl, z q3 (by simp)⟩
              · exact ⟨q4, rfl, rfl, z q4 (by simp)⟩)
            obtain ⟨t1, t2, t3, t4, t5⟩ := tower2 wc (.cells #[.int .i64 K, .int .i64 0, .int .i64 0, .int .i64 0, .int .i64 0, .int .i64 0] 44) (.cells #[.pointer (some ⟨wc.heap.size, 1, none⟩), .pointer (some ⟨wc.heap.size, 2, none⟩), .pointer (some ⟨wc.heap.size, 3, none⟩), .pointer (some ⟨wc.heap.size, 4, none⟩), .pointer (some ⟨wc.heap.size, 5, none⟩)] 82)
            have BT := Lib.hid (t5 BC.out hsc)
            have T0 := Lib.hid (t5 (Below.refl _ wc) (Nat.le_refl _))
            have QBT : Hid (((wc.alloc (.cells #[.int .i64 K, .int .i64 0, .int .i64 0, .int .i64 0, .int .i64 0, .int .i64 0] 44)).alloc (.cells #[.pointer (some ⟨wc.heap.size, 1, none⟩), .pointer (some ⟨wc.heap.size, 2, none⟩), .pointer (some ⟨wc.heap.size, 3, none⟩), .pointer (some ⟨wc.heap.size, 4, none⟩), .pointer (some ⟨wc.heap.size, 5, none⟩)] 82)).heap[B]? = some (.cells #[.string a, .string q0, .string q1, .string q2, .string q3, .string q4] 9 (0, 0))) := Lib.hid ((t3 _ (lt_of PSB.out)).trans (by rw [PSB.out]; rfl))
            have PBT : Hid (((wc.alloc (.cells #[.int .i64 K, .int .i64 0, .int .i64 0, .int .i64 0, .int .i64 0, .int .i64 0] 44)).alloc (.cells #[.pointer (some ⟨wc.heap.size, 1, none⟩), .pointer (some ⟨wc.heap.size, 2, none⟩), .pointer (some ⟨wc.heap.size, 3, none⟩), .pointer (some ⟨wc.heap.size, 4, none⟩), .pointer (some ⟨wc.heap.size, 5, none⟩)] 82)).heap[wc.heap.size]? = some (.cells (pcells K []) 44 (0, 0))) := Lib.hid t1
            have ABT := Lib.hid t2
            have OWT := Lib.hid (own_below OWC.out T0.out)
            have hPv := fun e => Nat.lt_irrefl _ (own_lt (k := wc.heap.size) OWC.out e)
            have hBP : B ≠ wc.heap.size := Nat.ne_of_lt (lt_of PSB.out)
            clear t1 t2 t3 t4 t5 T0
            go_wp2_with fail
            generalize (wc.alloc (.cells #[.int .i64 K, .int .i64 0, .int .i64 0, .int .i64 0, .int .i64 0, .int .i64 0] 44)).alloc (.cells #[.pointer (some ⟨wc.heap.size, 1, none⟩), .pointer (some ⟨wc.heap.size, 2, none⟩), .pointer (some ⟨wc.heap.size, 3, none⟩), .pointer (some ⟨wc.heap.size, 4, none⟩), .pointer (some ⟨wc.heap.size, 5, none⟩)] 82) = W1 at *
            generalize wc.heap.size = P at *
            go_loopw [60] (fun i wr => ∃ (m : Nat) (acc : List Int), m ≤ 5 ∧ i = .int .i64 m ∧ acc.length = m ∧ Sofar qs m acc ∧ wr.heap[P]? = some (.cells (pcells K acc) 44 (0, 0)) ∧ wr.heap[P + 1]? = some (.cells #[.pointer (some ⟨P, 1, none⟩), .pointer (some ⟨P, 2, none⟩), .pointer (some ⟨P, 3, none⟩), .pointer (some ⟨P, 4, none⟩), .pointer (some ⟨P, 5, none⟩)] 82 (0, 0)) ∧ wr.heap[B]? = some (.cells #[.string a, .string q0, .string q1, .string q2, .string q3, .string q4] 9 (0, 0)) ∧ wr.ownsRow w.heap.size 44 6 u4 M.length (ensCells M) ∧ Below w.heap.size w wr) (fun i _ => 5 - (intOf i).toNat)
            case atStart => exact ⟨0, [], by omega, rfl, rfl, Sofar.zero qs, PBT.out, ABT.out, QBT.out, OWT.out, BT.out⟩
            case round =>
              obtain ⟨m, acc, hm, rfl, hal, hso, hpb, hab, hqb, how, hbr⟩ := hrel
              have SO := Lib.hid hso
              have PB := Lib.hid hpb
              have AB := Lib.hid hab
              have QB := Lib.hid hqb
              have OWX := Lib.hid how
              have BXX := Lib.hid hbr
              have hsy := hbr.size
              clear hso hpb hab hqb how hbr
              by_cases hm5 : m < 5
              · obtain ⟨x, hxc, hxd, hxz⟩ := QC.out m _ hm5 QB.out
                have HXD := Lib.hid hxd
                have pc : wr.cell? ⟨P + 1, m, none⟩ = some (.pointer (some ⟨P, m + 1, none⟩)) := by
                  rw [cell_of AB.out]
                  rcases (show m = 0 ∨ m = 1 ∨ m = 2 ∨ m = 3 ∨ m = 4 by omega) with rfl | rfl | rfl | rfl | rfl <;> rfl
                have hw1 : IntKind.i64.wrap ((m : Int) + 1) = (m : Int) + 1 := IntWalk.i64_in _ (by omega)
                have hi1 : (m : Int) + 1 < 6 := by omega
                have hi2 : 0 ≤ (m : Int) + 1 := by omega
                have hi3 : ((m : Int) + 1).toNat = m + 1 := by omega
                clear hxd
                go_wp2_with fail
                refine (digits_any x wr hxz (LL.out BXX.out)).mono ?_
                rintro e w5 ⟨n, rfl, hn, hb5⟩
                have HN := Lib.hid hn
                have PB5 := Lib.hid ((hb5.block P (lt_of PB.out)).trans PB.out)
                have AB5 := Lib.hid ((hb5.block (P + 1) (lt_of AB.out)).trans AB.out)
                have QB5 := Lib.hid ((hb5.block B (lt_of QB.out)).trans QB.out)
                have OW5 := Lib.hid (own_below OWX.out hb5)
                have B5 := Lib.hid (BXX.out.trans (hb5.mono hsy))
                clear hb5 hn pc hxc
                cases hx : progNum x.data.toList with
                | none =>
                  have ER := Lib.hid (BAD.out (Or.inr (by rw [LN.out, SO.out.bad (by omega) (by rw [← HXD.out]; exact hx)])))
                  clear hx
                  go_wp2_with fail
                  go_ret2
                  exact readPost_nil 8 ER.out B5.out
                | some n' =>
                  have hnn := HN.out n' hx
                  have SO6 := Lib.hid (SO.out.step (n := n) (by omega) (by rw [← HXD.out, hx, hnn]))
                  have mc : w5.cell? ⟨P, m + 1, none⟩ = some (.int .i64 0) := (cell_of PB5.out (m + 1)).trans (by rw [← hal]; exact pcells_at K acc (by omega))
                  have mf : w5.frozen? ⟨P, m + 1, none⟩ = false := free_of PB5.out _
                  have PB6 : Hid ((w5.setCell ⟨P, m + 1, none⟩ (.int .i64 n)).heap[P]? = some (.cells (pcells K (acc ++ [n])) 44 (0, 0))) := Lib.hid (by rw [block_setCell PB5.out, ← hal, pcells_set K n acc (by omega)])
                  have AB6 := Lib.hid ((Below.heap_setCell w5 ⟨P, m + 1, none⟩ (.int .i64 n) (P + 1) (by simp)).trans AB5.out)
                  have QB6 := Lib.hid ((Below.heap_setCell w5 ⟨P, m + 1, none⟩ (.int .i64 n) B hBP).trans QB5.out)
                  have OW6 := Lib.hid (own_set (j := m + 1) (x := .int .i64 n) OW5.out hPv)
                  have B6 := Lib.hid (B5.out.setCell (p := ⟨P, m + 1, none⟩) hsc (.int .i64 n))
                  clear hx hnn
                  go_wp2_with fail
                  go_round
                  case rel => exact ⟨m + 1, acc ++ [n], by omega, by go_num, by simp [hal], SO6.out, PB6.out, AB6.out, QB6.out, OW6.out, B6.out⟩
                  case measure => simp [intOf]; omega
              · obtain rfl : m = 5 := by omega
                obtain ⟨n0, n1, n2, n3, n4, rfl⟩ : ∃ n0 n1 n2 n3 n4, acc = [n0, n1, n2, n3, n4] := by
                  match acc, hal with
                  | [n0, n1, n2, n3, n4], _ => exact ⟨_, _, _, _, _, rfl⟩
                have SA : readNums qs = some [n0, n1, n2, n3, n4] := Sofar.all (by rw [hq5]; exact SO.out)
                have EL : lineEn l.data.toList = some ⟨K, n0, n1, n2, n3, n4⟩ := by rw [LN.out, SA]; simp only; rw [kindE_at, HK.out]
                have RT2 : Hid (RestTo s.data.toList t.data.toList (M ++ [⟨K, n0, n1, n2, n3, n4⟩])) := Lib.hid (by rw [HCT.out]; exact RT.out.step hrd.out HCF.out.symm (by rw [← HCL.out]; exact EL))
                have htz := HTZ.out trivial
                have p0 : wr.cell? ⟨P, 0, none⟩ = some (.int .i64 K) := (cell_of PB.out 0).trans rfl
                have p1 : wr.cell? ⟨P, 1, none⟩ = some (.int .i64 n0) := (cell_of PB.out 1).trans rfl
                have p2 : wr.cell? ⟨P, 2, none⟩ = some (.int .i64 n1) := (cell_of PB.out 2).trans rfl
                have p3 : wr.cell? ⟨P, 3, none⟩ = some (.int .i64 n2) := (cell_of PB.out 3).trans rfl
                have p4 : wr.cell? ⟨P, 4, none⟩ = some (.int .i64 n3) := (cell_of PB.out 4).trans rfl
                have p5 : wr.cell? ⟨P, 5, none⟩ = some (.int .i64 n4) := (cell_of PB.out 5).trans rfl
                have hown := OWX.out
                clear SA EL hm5 hm hal
                go_wp2_with (at_builtin; go_must (refine wpList_append_cells rfl _ _ 38 rfl w.heap.size 44 i0 (.agg #[.int .i64 0, .int .i64 0, .int .i64 0, .int .i64 0, .int .i64 0, .int .i64 0]) 6 48 Tryd.underlying38 hi0 hz0 hz1 hz2 rfl (by decide) _ _ _ wr _ [.int .i64 K, .int .i64 n0, .int .i64 n1, .int .i64 n2, .int .i64 n3, .int .i64 n4] rfl (by exact hown) rfl rfl (by intro u hu; simp at hu; rcases hu with rfl | rfl | rfl | rfl | rfl | rfl <;> rfl) (by unfold maxLen; omega) (by omega) (by omega) ?_))
                intro v' w8 hown' hgr hb8
                have OW8 : Hid (w8.ownsRow w.heap.size 44 6 v' (M ++ [(⟨K, n0, n1, n2, n3, n4⟩ : En)]).length (ensCells (M ++ [⟨K, n0, n1, n2, n3, n4⟩]))) := Lib.hid (by rw [ensCells_snoc, List.length_append]; exact hown')
                have B8 := Lib.hid (BXX.out.trans hb8)
                clear hown' hgr hb8 hown p0 p1 p2 p3 p4 p5
                go_wp2_with fail
                go_round
                case rel => exact ⟨t, M ++ [⟨K, n0, n1, n2, n3, n4⟩], rfl, RT2.out, by simp; omega, OW8.out, B8.out⟩
                case measure => simp [strLen]; omega

end Go.Proofs.YtifibhaalepmgaaDoor
