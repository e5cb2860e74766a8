/-
  The reference's purse; how room grows and shrinks, by the reference. No conditions but bounds.
  The reference's heap: its memory made anew (fit). No conditions but bounds.
-/
import Derived.Test.YtjogaohnphafgaaGreatMoveRunsPbd
import Derived.Test.YtjogaohnphafgaaGreatMoveRunsPaf
import Derived.Test.YtjogaohnphafgaaGreatMoveRunsPat

namespace Go.Proofs.YtjogaohnphafgaaGreat
section
open Go.RowKit
set_option linter.unusedVariables false

theorem classes_tab : ∀ i, i < 14 → classes.getD (2 * i) 0 = ((8 * 2 ^ i : Nat) : Int) ∧ classes.getD (2 * i + 1) 0 = ((12 * 2 ^ i : Nat) : Int) ∧ 8 * 2 ^ i ≤ 65536 ∧ 8 ≤ 8 * 2 ^ i := by decide +kernel

set_option maxHeartbeats 4000000 in
set_option maxRecDepth 100000 in
theorem classR_any (n : Int) (h2 : n ≤ 100000) (h0 : 0 ≤ n) (w : World) :
    Calls Tryz.prog 105 #[.int .i64 n] w (fun e w' => e = .returned (.int .i64 (cfor n)) ∧ w' = w) := by
  go_enter Tryz.func105, Tryz.ntmps105
  go_wp2_with fail
  go_loopw [3] (fun v wr => ∃ (i K : Nat), i ≤ 14 ∧ K = 8 * 2 ^ i ∧ v = .int .i64 (K : Int) ∧ (∀ j, j < 2 * i → classes.getD j 0 < n) ∧ wr = w) (fun v _ => 200000 - (intOf v).toNat)
  case atStart => exact ⟨0, 8, by omega, rfl, rfl, fun j hj => by omega, rfl⟩
  case round =>
    obtain ⟨i, K, hi, hK, rfl, hlow, rfl⟩ := hrel
    by_cases hlt : i < 14
    · obtain ⟨t1, t2, t3, t4⟩ := classes_tab i hlt
      have t2' : classes.getD (2 * i + 1) 0 = ((K / 2 * 3 : Nat) : Int) := by rw [t2, hK]; congr 1; omega
      have hK2 : 8 * 2 ^ (i + 1) = K * 2 := by rw [hK, Nat.pow_succ]; omega
      rw [← hK] at t1 t3 t4
      have F1 : Hid (n ≤ (K : Int) → cfor n = (K : Int)) := Lib.hid (fun h => by
        have := find_at classes n (2 * i) (by rw [classes_len]; omega) hlow (by rw [t1]; exact h)
        rw [t1] at this
        exact this)
      have F2 : Hid (¬ n ≤ (K : Int) → n ≤ ((K / 2 * 3 : Nat) : Int) → cfor n = ((K / 2 * 3 : Nat) : Int)) := Lib.hid (fun h h' => by
        have := find_at classes n (2 * i + 1) (by rw [classes_len]; omega) (fun j hj => by
          rcases Nat.lt_or_ge j (2 * i) with hj2 | hj2
          · exact hlow j hj2
          · obtain rfl : j = 2 * i := by omega
            rw [t1]; omega) (by rw [t2']; exact h')
        rw [t2'] at this
        exact this)
      have F3 : Hid (¬ n ≤ (K : Int) → ¬ n ≤ ((K / 2 * 3 : Nat) : Int) → ∀ j, j < 2 * (i + 1) → classes.getD j 0 < n) := Lib.hid (fun h h' j hj => by
        rcases Nat.lt_or_ge j (2 * i) with hj2 | hj2
        · exact hlow j hj2
        · rcases Nat.lt_or_ge j (2 * i + 1) with hj3 | hj3
          · obtain rfl : j = 2 * i := by omega
            rw [t1]; omega
          · obtain rfl : j = 2 * i + 1 := by omega
            rw [t2']; omega)
      have HK2 := Lib.hid hK2
      obtain ⟨q, hq⟩ : ∃ q, K = 2 * q := ⟨K / 2, by rw [hK]; omega⟩
      have e2 : K / 2 * 3 = 3 * q := by omega
      rw [e2] at F2 F3
      subst hq
      clear hK hlow t1 t2 t2' hK2 e2
      by_cases h1 : n ≤ ((2 * q : Nat) : Int)
      · have E := Lib.hid (F1.out h1)
        go_wp2_with fail
        go_ret
        exact ⟨by rw [E.out]; try rfl, by first | rfl | trivial⟩
      · by_cases h3 : n ≤ ((3 * q : Nat) : Int)
        · have E := Lib.hid (F2.out h1 h3)
          have h5 : 3 * q ≤ 100000 := by omega
          go_wp2_with fail
          go_ret
          exact ⟨ret_int (by rw [E.out]; omega), by first | rfl | trivial⟩
        · have E := Lib.hid (F3.out h1 h3)
          go_wp2_with fail
          exact ⟨⟨i + 1, 2 * q * 2, by omega, HK2.out.symm, by go_num, E.out, by trivial⟩, by simp only [intOf]; omega⟩
    · obtain rfl : i = 14 := by omega
      have E : cfor n = 100000 := by
        have := find_at classes n 28 (by rw [classes_len]; omega) hlow (by rw [classes_last]; exact h2)
        rw [classes_last] at this
        exact this
      have hK' : K = 131072 := by rw [hK]
      subst hK'
      have HE := Lib.hid E
      clear hK hlow E
      go_wp2_with fail
      go_ret
      exact ⟨by rw [HE.out]; rfl, by first | rfl | trivial⟩

def growR (k s m has need : Int) : Int := if need ≤ has then has else min (wishI k s has need) m

set_option maxHeartbeats 4000000 in
set_option maxRecDepth 100000 in
theorem grownR_any (k s m room need : Int) (w : World) (hk : 1 ≤ k ∧ k ≤ 5) (hs : k = 2 → 1 ≤ s ∧ s ≤ 100000) (hm : 0 ≤ m ∧ m ≤ 100000) (hr : 0 ≤ room ∧ room ≤ 100000) (hn : 0 ≤ need ∧ need ≤ 100000) :
    Calls Tryz.prog 88 #[.agg #[.int .i64 k, .int .i64 s, .int .i64 m], .int .i64 room, .int .i64 need] w (WPost (growR k s m room need) w) := by
  obtain ⟨hr1, hr2⟩ := hr
  obtain ⟨hn1, hn2⟩ := hn
  obtain ⟨hm1, hm2⟩ := hm
  by_cases hle : need ≤ room
  · have e : growR k s m room need = room := by unfold growR; rw [if_pos hle]
    rw [e]
    clear e hk hs
    go_enter Tryz.func88, Tryz.ntmps88
    go_wp2_with fail
    go_ret
    exact ⟨rfl, (Below.refl _ _).alloc (Nat.le_refl _) _⟩
  · have e : growR k s m room need = min (wishI k s room need) m := by unfold growR; rw [if_neg hle]
    rw [e]
    clear e
    have hkk : k = 1 ∨ k = 2 ∨ k = 3 ∨ k = 4 ∨ k = 5 := by omega
    rcases hkk with rfl | rfl | rfl | rfl | rfl
    · clear hs hk
      go_enter Tryz.func88, Tryz.ntmps88
      go_wp2_with fail
      all_goals
        go_ret
        exact ⟨ret_int (by simp [wishI] <;> omega), (Below.refl _ _).alloc (Nat.le_refl _) _⟩
    · obtain ⟨hs1, hs2⟩ := hs rfl
      obtain ⟨d1, d2, d3, d4⟩ := mul_bd need s hn1 hn2 hs1 hs2
      clear hs hk
      go_enter Tryz.func88, Tryz.ntmps88
      go_wp2
      go_region
      all_goals
        go_wp2
        go_ret
        exact ⟨ret_int (by simp [wishI] <;> omega), ((Below.refl _ _).alloc (Nat.le_refl _) _).drew⟩
    · clear hs hk
      go_enter Tryz.func88, Tryz.ntmps88
      go_wp2
      all_goals
        go_ret
        exact ⟨ret_int (by simp [wishI] <;> omega), (Below.refl _ _).alloc (Nat.le_refl _) _⟩
    · clear hs hk
      go_enter Tryz.func88, Tryz.ntmps88
      go_wp2
      all_goals
        go_ret
        exact ⟨ret_int (by simp [wishI] <;> omega), (Below.refl _ _).alloc (Nat.le_refl _) _⟩
    · clear hs hk
      have C := Lib.hid (fun W => classR_any need hn2 hn1 W)
      have hcb : need ≤ cfor need ∧ cfor need ≤ 100000 := cfor_bd need hn1 hn2
      have E5 : Hid (wishI 5 s room need = cfor need) := Lib.hid (by simp [wishI])
      rw [E5.out]
      generalize cfor need = cc at *
      go_enter Tryz.func88, Tryz.ntmps88
      go_wp2_with fail
      refine (C.out _).mono ?_
      rintro e w2 ⟨rfl, rfl⟩
      go_wp2_with fail
      all_goals
        go_ret
        exact ⟨ret_int (by omega), (Below.refl _ _).alloc (Nat.le_refl _) _⟩

theorem growR_gV {k s m room need : Int} (h : need ≤ m) : growR k s m room need = gV k s m room need := by
  unfold growR gV
  split
  · rfl
  · rw [if_neg (by omega)]
theorem growR_bd {k s m room need : Int} (hk : 1 ≤ k ∧ k ≤ 5) (hs : k = 2 → 1 ≤ s ∧ s ≤ 100000) (hm : 0 ≤ m ∧ m ≤ 100000) (hr : 0 ≤ room ∧ room ≤ 100000) (hn : 0 ≤ need ∧ need ≤ 100000) : 0 ≤ growR k s m room need ∧ growR k s m room need ≤ 100000 := by
  unfold growR
  split
  · exact hr
  · have : need ≤ wishI k s room need := by
      have hkk : k = 1 ∨ k = 2 ∨ k = 3 ∨ k = 4 ∨ k = 5 := by omega
      rcases hkk with rfl | rfl | rfl | rfl | rfl
      · simp [wishI]
      · obtain ⟨hs1, hs2⟩ := hs rfl
        have := (mul_bd need s hn.1 hn.2 hs1 hs2).2.2.1
        simpa [wishI] using this
      · simp [wishI]; omega
      · simp [wishI]; omega
      · have := (cfor_bd need hn.1 hn.2).1
        simpa [wishI] using this
    omega

set_option maxHeartbeats 4000000 in
set_option maxRecDepth 100000 in
theorem shrunkR_any (k s m room used : Int) (w : World) (hp : polErr k s m = 0) (hk : 1 ≤ k ∧ k ≤ 5) (hs : k = 2 → 1 ≤ s ∧ s ≤ 100000) (hm : 0 ≤ m ∧ m ≤ 100000) (hr : 0 ≤ room ∧ room ≤ 100000) (hn : 0 ≤ used ∧ used ≤ room) :
    Calls Tryz.prog 57 #[.agg #[.int .i64 k, .int .i64 s, .int .i64 m], .int .i64 room, .int .i64 used] w (WPost (shrinkV k s m room used) w) := by
  have ev : shrinkV k s m room used = shrV k room used (gV k s m 0 used) (gE m 0 used) := by unfold shrinkV; rw [if_pos ⟨hp, hr, hn⟩]
  rw [ev]
  by_cases hu : m < used
  · have e : shrV k room used (gV k s m 0 used) (gE m 0 used) = room := by
      have : gE m 0 used = 12 := by unfold gE; rw [if_neg (by omega), if_pos hu]
      rw [this]; exact shrV_full
    rw [e]
    clear e ev hp hk hs
    go_enter Tryz.func57, Tryz.ntmps57
    go_wp2_with fail
    go_ret
    exact ⟨rfl, (Below.refl _ _).alloc (Nat.le_refl _) _⟩
  · have e0 : gE m 0 used = 0 := by unfold gE; rw [if_neg hu]; split <;> rfl
    have eg : gV k s m 0 used = growR k s m 0 used := (growR_gV (by omega)).symm
    rw [e0, eg]
    have GR := Lib.hid (fun W => grownR_any k s m 0 used W hk hs hm ⟨by omega, by omega⟩ ⟨hn.1, by omega⟩)
    have gb := growR_bd (room := 0) hk hs hm ⟨by omega, by omega⟩ (need := used) ⟨hn.1, by omega⟩
    unfold WPost at GR
    generalize growR k s m 0 used = g at *
    obtain ⟨hr1, hr2⟩ := hr
    obtain ⟨hn1, hn2⟩ := hn
    obtain ⟨gb1, gb2⟩ := gb
    have FIN : Hid (∀ v w', v = shrV k room used g 0 → Below w.heap.size w w' → WPost (shrV k room used g 0) w (.returned (.int .i64 v)) w') := Lib.hid (fun v w' h hb => ⟨by rw [h], hb⟩)
    have hu' : used ≤ m := by omega
    have q0 := heap_alloc_new w (.cells #[.int .i64 k, .int .i64 s, .int .i64 m] 23)
    obtain ⟨c0, c1, c2⟩ := cells3h q0
    have B0 : Below w.heap.size w (w.alloc (.cells #[.int .i64 k, .int .i64 s, .int .i64 m] 23)) := (Below.refl _ _).alloc (Nat.le_refl _) _
    have HB0 := Lib.hid B0
    have hlt := lt_of q0
    clear e0 eg ev hp hs hm q0 B0 hu
    go_enter Tryz.func57, Tryz.ntmps57
    go_upto_region 1 with fail
    obtain ⟨r, hr⟩ : ∃ r, w.heap.size = r := ⟨_, rfl⟩
    rw [hr] at c0 c1 c2 hlt
    try rw [hr]
    generalize w.alloc (.cells #[.int .i64 k, .int .i64 s, .int .i64 m] 23) = W0 at *
    go_wp2_with fail
    refine (GR.out _).mono ?_
    rintro e w2 ⟨rfl, hb⟩
    have c0 := (hb.cell (p := ⟨r, 0, none⟩) hlt).trans c0
    have HB := Lib.hid (HB0.out.trans (hb.mono HB0.out.size))
    clear hb GR c1 c2
    go_wp2_with fail
    all_goals
      go_ret
      exact FIN.out _ _ (by unfold shrV; split <;> omega) HB.out

/-- The purse: what is held changes, if there is enough. -/
def PcPost (w : World) (pp M to' : Nat) : Ending → World → Prop := fun e w' =>
  (M < to' ∧ e = .returned (.bool false) ∧ Below w.heap.size w w') ∨ (to' ≤ M ∧ e = .returned (.bool true) ∧ ∃ q, w' = (w.drewN q).setCell ⟨pp, 0, none⟩ (.int .i64 (to' : Int)))

set_option maxHeartbeats 4000000 in
set_option maxRecDepth 100000 in
theorem purse_any (pp M n to' : Nat) (w : World) (h : w.heap[pp]? = some (.cells #[.int .i64 (n : Int), .int .i64 (M : Int)] 37 (0, 0))) (hn : n ≤ M) (hM : M ≤ 10000000) (ht : to' ≤ 10000000) :
    Calls Tryz.prog 58 #[.pointer (some ⟨pp, 0, none⟩), .int .i64 (n : Int), .int .i64 (to' : Int)] w (PcPost w pp M to') := by
  obtain ⟨c0, c1⟩ := cells2 h
  have f0 := free_of h 0
  have HB : Hid (∀ q, Below w.heap.size w (w.drewN q)) := Lib.hid (fun q => bdrewN (Below.refl _ _) q)
  have hlt := lt_of h
  clear h
  by_cases hgo : to' ≤ M
  · go_enter Tryz.func58, Tryz.ntmps58
    go_upto_region 1 with fail
    go_quiet (fail)
    go_wp2_with fail
    all_goals go_ret
    all_goals first
      | exact Or.inr ⟨hgo, rfl, _, by first | rfl | (congr 1; go_num)⟩
      | omega
  · go_enter Tryz.func58, Tryz.ntmps58
    go_upto_region 1 with fail
    go_quiet (fail)
    go_wp2_with fail
    all_goals go_ret
    all_goals first
      | exact Or.inl ⟨by omega, rfl, HB.out _⟩
      | omega

end
end Go.Proofs.YtjogaohnphafgaaGreat

namespace Go.Proofs.YtjogaohnphafgaaGreat
section
open Go.RowKit
set_option linter.unusedVariables false

theorem RfMem.lt {w : World} {F : Nat → Prop} {rp pp M : Nat} {S : HpSt} {kept : List (List Blk)} {vm vb vk : Value} {vks : List Value} (m : RfMem w F rp pp M S kept vm vb vk vks) : rp < w.heap.size ∧ pp < w.heap.size ∧ rp ≠ pp := by
  refine ⟨lt_of m.self, lt_of m.purse, fun e => ?_⟩
  have h1 := m.self
  rw [e, m.purse] at h1
  simp at h1
/-- What is new of a heap of the reference; the rest stays. -/
theorem RfMem.re2 {w w' : World} {F F' : Nat → Prop} {rp pp M : Nat} {S S' : HpSt} {kept : List (List Blk)} {vm vm' vb vb' vk : Value} {vks : List Value} (m : RfMem w F rp pp M S kept vm vb vk vks) (hF : ∀ k, Lost F vm vm' k → F' k)
    (self : w'.heap[rp]? = some (.cells #[.pointer (some ⟨pp, 0, none⟩), .int .i64 S'.k, .int .i64 S'.s, .int .i64 S'.m, .bool S'.closed, .int .i64 (S'.count : Int), vm', vb', .int .i64 (S'.last : Int), vk] 42 (0, 0)))
    (purse : w'.heap[pp]? = some (.cells #[.int .i64 (S'.mem.length : Int), .int .i64 (M : Int)] 37 (0, 0)))
    (mem : w'.ownsRow 0 5 1 vm' S'.mem.length (S'.mem.map (Value.int .u8)) ∧ ∀ k, vm'.ownBlock = some k → F' k) (mb : bytes S'.mem) (msh : memSh vm' S'.mem.length)
    (row : OffRow w' 78 3 vb' S'.bl.length (S'.bl.flatMap Blk.cells) ∧ ∀ k, vb'.ownBlock = some k → F' k ∧ (vb.ownBlock = some k ∨ w.heap.size ≤ k))
    (keep : ∀ k, F k → k < w.heap.size → k ≠ rp → k ≠ pp → vm.ownBlock ≠ some k → vb.ownBlock ≠ some k → w'.heap[k]? = w.heap[k]?)
    (ord : (S'.bl.map Blk.h).Pairwise (· < ·)) (hb : ∀ x ∈ S'.bl, 1 ≤ x.h ∧ x.h ≤ S'.last ∧ x.at' + x.len ≤ S'.mem.length)
    (big : S'.mem.length ≤ 100000 ∧ S'.bl.length ≤ 500 ∧ S'.last ≤ 1000000000 ∧ S'.count ≤ 1000000000 ∧ S'.mem.length ≤ M) : RfMem w' F' rp pp M S' kept vm' vb' vk vks := by
  have far : ∀ {size n : Nat} {e : TypeId} {v : Value} {xs : List Value}, w.ownsRow 0 e size v n xs → (∀ k, v.ownBlock = some k → F k) → e ≠ 5 → e ≠ 42 → e ≠ 37 → (∀ k, v.ownBlock = some k → vb.ownBlock ≠ some k) → w'.ownsRow 0 e size v n xs := fun h hF h1 h2 h3 h4 => ownsRow_same h (fun k hk => by
    obtain ⟨cur, hc⟩ := row_block h hk
    refine keep k (hF k hk) (lt_of hc) (fun e => ?_) (fun e => ?_) (fun e => ?_) (h4 k hk)
    · rw [e, m.self] at hc; simp at hc; exact h2 hc.2.symm
    · rw [e, m.purse] at hc; simp at hc; exact h3 hc.2.symm
    · obtain ⟨c2, hc2⟩ := row_block m.mem.1 e
      rw [hc] at hc2; simp at hc2; exact h1 hc2.2)
  have nvm : ∀ {k : Nat} {cur : Array Value} {e : TypeId}, w.heap[k]? = some (.cells cur e (0, 0)) → e ≠ 5 → vm.ownBlock ≠ some k := fun {k cur e} hk he h => by
    obtain ⟨c2, h2⟩ := row_block m.mem.1 h
    rw [hk] at h2; simp at h2; exact he h2.2
  have hF2 : ∀ {k : Nat} {cur : Array Value} {e : TypeId}, F k → w.heap[k]? = some (.cells cur e (0, 0)) → e ≠ 5 → F' k := fun {k cur e} h hk he => hF k (Lost.not h (nvm hk he))
  refine ⟨self, hF2 m.fr m.self (by decide), purse, hF2 m.fp m.purse (by decide), mem, mb, msh, ⟨row.1, fun k hk => (row.2 k hk).1⟩, ⟨far m.krow.1 m.krow.2 (by decide) (by decide) (by decide) (fun k hk e => ?_), fun k hk => by obtain ⟨c, hc⟩ := row_block m.krow.1 hk; exact hF2 (m.krow.2 k hk) hc (by decide)⟩, ⟨m.ks.1, fun i v l h1 h2 => ?_⟩, ord, hb, ⟨big.1, big.2.1, big.2.2.1, big.2.2.2.1, m.big.2.2.2.2.1, m.big.2.2.2.2.2.1, big.2.2.2.2⟩, m.kb⟩
  · obtain ⟨c1, h1⟩ := row_block m.krow.1 hk
    obtain ⟨c2, h2⟩ := m.row.1.block e
    rw [h1] at h2; simp at h2
  · obtain ⟨r1, r2⟩ := m.ks.2 i v l h1 h2
    refine ⟨far r1 (fun k hk => (r2 k hk).1) (by decide) (by decide) (by decide) (fun k hk => (r2 k hk).2), fun k hk => ⟨by obtain ⟨c, hc⟩ := row_block r1 hk; exact hF2 (r2 k hk).1 hc (by decide), fun e => ?_⟩⟩
    rcases (row.2 k e).2 with h3 | h3
    · exact (r2 k hk).2 h3
    · obtain ⟨c1, h4⟩ := row_block r1 hk
      have := lt_of h4
      omega
theorem RfMem.re {w w' : World} {F F' : Nat → Prop} {rp pp M : Nat} {S S' : HpSt} {kept : List (List Blk)} {vm vm' vb vb' vk : Value} {vks : List Value} (m : RfMem w F rp pp M S kept vm vb vk vks) (hF : ∀ k, F k → F' k)
    (self : w'.heap[rp]? = some (.cells #[.pointer (some ⟨pp, 0, none⟩), .int .i64 S'.k, .int .i64 S'.s, .int .i64 S'.m, .bool S'.closed, .int .i64 (S'.count : Int), vm', vb', .int .i64 (S'.last : Int), vk] 42 (0, 0)))
    (purse : w'.heap[pp]? = some (.cells #[.int .i64 (S'.mem.length : Int), .int .i64 (M : Int)] 37 (0, 0)))
    (mem : w'.ownsRow 0 5 1 vm' S'.mem.length (S'.mem.map (Value.int .u8)) ∧ ∀ k, vm'.ownBlock = some k → F' k) (mb : bytes S'.mem) (msh : memSh vm' S'.mem.length)
    (row : OffRow w' 78 3 vb' S'.bl.length (S'.bl.flatMap Blk.cells) ∧ ∀ k, vb'.ownBlock = some k → F' k ∧ (vb.ownBlock = some k ∨ w.heap.size ≤ k))
    (keep : ∀ k, F k → k < w.heap.size → k ≠ rp → k ≠ pp → vm.ownBlock ≠ some k → vb.ownBlock ≠ some k → w'.heap[k]? = w.heap[k]?)
    (ord : (S'.bl.map Blk.h).Pairwise (· < ·)) (hb : ∀ x ∈ S'.bl, 1 ≤ x.h ∧ x.h ≤ S'.last ∧ x.at' + x.len ≤ S'.mem.length)
    (big : S'.mem.length ≤ 100000 ∧ S'.bl.length ≤ 500 ∧ S'.last ≤ 1000000000 ∧ S'.count ≤ 1000000000 ∧ S'.mem.length ≤ M) : RfMem w' F' rp pp M S' kept vm' vb' vk vks :=
  m.re2 (fun k h => hF k h.1) self purse mem mb msh row keep ord hb big

/-- What fit leaves. -/
def FtPost (w : World) (F : Nat → Prop) (rp pp M : Nat) (S : HpSt) (kept : List (List Blk)) (vm vb vk : Value) (vks : List Value) (z : Nat) : Ending → World → Prop := fun e w' =>
  (M < z ∧ e = .returned (.bool false) ∧ Below w.heap.size w w') ∨
  (z ≤ M ∧ e = .returned (.bool true) ∧ ∃ (vm' : Value) (F' : Nat → Prop), RfMem w' F' rp pp M (S.mem' z) kept vm' vb vk vks ∧ MemTo w.heap.size S.mem.length z vm vm' ∧ (∀ k, F' k → Lost F vm vm' k ∨ w.heap.size ≤ k) ∧ Touch (Lost F vm vm') w w')

set_option maxHeartbeats 4000000 in
set_option maxRecDepth 100000 in
theorem fitR_any {w : World} {F : Nat → Prop} {rp pp M : Nat} {S : HpSt} {kept : List (List Blk)} {vm vb vk : Value} {vks : List Value} (m : RfMem w F rp pp M S kept vm vb vk vks) (z : Nat) (hz : z ≤ 100000) (hin : ∀ x ∈ S.bl, x.at' + x.len ≤ z) :
    Calls Tryz.prog 38 #[.pointer (some ⟨rp, 0, none⟩), .int .i64 (z : Int)] w (FtPost w F rp pp M S kept vm vb vk vks z) := by
  have HM := Lib.hid m
  have c0 := m.cells.1
  have c6 := m.cells.2.2.2.2.2.2.1
  obtain ⟨ma, mc, hvm, hmc1, hmc2, hma⟩ := m.memory
  obtain ⟨N, hN⟩ : ∃ N, S.mem.length = N := ⟨_, rfl⟩
  have HN := Lib.hid hN
  have hb1 := m.big.1
  have hbM := m.big.2.2.2.2.2
  have PC := Lib.hid (fun q => purse_any pp M N z (w.drewN q) (by rw [← hN]; exact m.purse) (by omega) hbM.1 (by omega))
  have HVM := Lib.hid hvm
  rw [hvm, hN] at c6
  rw [hN] at hb1 hmc1
  have HIN := Lib.hid hin
  clear m hvm hN hma hin
  go_enter Tryz.func38, Tryz.ntmps38
  go_upto_region 1 with fail
  have S0 : (fun y : World => y = w.drew) w.drew := rfl
  have g0 : ∀ z : WIn (fun y : World => y = w.drew), z.w.cell? ⟨rp, 0, none⟩ = some (.pointer (some ⟨pp, 0, none⟩)) := fun z => by rw [z.h]; exact c0
  have g6 : ∀ z : WIn (fun y : World => y = w.drew), z.w.cell? ⟨rp, 6, none⟩ = some (.slice ma N mc) := fun z => by rw [z.h]; exact c6
  haveI ne : Nonempty (WIn (fun y : World => y = w.drew)) := ⟨⟨w.drew, S0⟩⟩
  refine wp_normal ?_
  refine wp_region_plan 10 (fun y : World => y = w.drew) rfl ?_
  refine wpN_pure [0, 1, 2, 4, 5, 6, 9] (by kernel_rfl) (by kernel_rfl) (by kernel_rfl) (fun _ _ _ _ _ h => h) (fun _ => S0) ?_
  simp only [pick, List.map_cons, List.map_nil, List.getElem?_cons_succ, List.getElem?_cons_zero, Option.getD_some]
  repeat (go_big_quiet_step (fail))
  refine wpQuiet_nil ?_
  refine wpN_seg [3, 7, 8] (by kernel_rfl) (by kernel_rfl) (by kernel_rfl) (by kernel_rfl) (by decide) (fun _ _ _ _ _ h => h) S0 ?_
  simp only [pick, List.map_cons, List.map_nil, List.getElem?_cons_succ, List.getElem?_cons_zero, Option.getD_some]
  repeat (go_big_quiet_step (fail))
  refine wpQuiet_nil ?_
  clear g0 g6 ne
  refine wpN_one 10 _ (by kernel_rfl) rfl ?_
  refine NextAt.free (by kernel_rfl) ?_
  intro K hK
  go_simp
  have C1 := PC.out 1
  refine (show Calls _ _ _ w.drew _ from C1).mono ?_
  rintro e w1 hp1
  rcases hp1 with ⟨hM, rfl, hb⟩ | ⟨hM, rfl, q, rfl⟩
  · go_simp
    refine hK _ _ ?_
    clear hK K
    refine wpN_pure [11] (by kernel_rfl) (by kernel_rfl) (by kernel_rfl) (fun _ _ _ _ _ h => h) (fun h => by cases h) ?_
    simp only [pick, List.map_cons, List.map_nil, List.getElem?_cons_succ, List.getElem?_cons_zero, Option.getD_some]
    repeat (go_big_quiet_step (fail))
    refine wpQuiet_nil ?_
    refine wpN_done (by kernel_rfl) ?_
    have FIN : Hid (FtPost w F rp pp M S kept vm vb vk vks z (.returned (.bool false)) w1) := Lib.hid (Or.inl ⟨hM, rfl, (bdrewN (Below.refl w.heap.size w) 1).trans hb⟩)
    clear hb S0 C1
    go_wp2_with fail
    go_ret
    exact FIN.out
  · go_simp
    refine hK _ _ ?_
    clear hK K
    refine wpN_pure [11] (by kernel_rfl) (by kernel_rfl) (by kernel_rfl) (fun _ _ _ _ _ h => h) (fun h => by cases h) ?_
    simp only [pick, List.map_cons, List.map_nil, List.getElem?_cons_succ, List.getElem?_cons_zero, Option.getD_some]
    repeat (go_big_quiet_step (fail))
    refine wpQuiet_nil ?_
    refine wpN_done (by kernel_rfl) ?_
    clear S0 C1 PC c0 c6
    have PU : Hid (((w.drewN (1 + q)).setCell ⟨pp, 0, none⟩ (.int .i64 (z : Int))).heap[pp]? = some (.cells #[.int .i64 (z : Int), .int .i64 (M : Int)] 37 (0, 0))) := Lib.hid (block_setCell (show (w.drewN (1 + q)).heap[pp]? = _ from HM.out.purse) 0 _)
    have KP : Hid (∀ k, k ≠ pp → ((w.drewN (1 + q)).setCell ⟨pp, 0, none⟩ (.int .i64 (z : Int))).heap[k]? = w.heap[k]?) := Lib.hid (fun k hk => Below.heap_setCell (w.drewN (1 + q)) ⟨pp, 0, none⟩ _ k hk)
    have hsz : ((w.drewN (1 + q)).setCell ⟨pp, 0, none⟩ (.int .i64 (z : Int))).heap.size = w.heap.size := by simp [World.setCell]
    have TT : Hid (Touch (fun k => k = pp) w ((w.drewN (1 + q)).setCell ⟨pp, 0, none⟩ (.int .i64 (z : Int)))) := Lib.hid (Touch.setCell (F := fun k => k = pp) ((Touch.refl (fun k => k = pp) w).drewN (1 + q)) (p := ⟨pp, 0, none⟩) (Or.inl rfl) _)
    generalize (w.drewN (1 + q)).setCell ⟨pp, 0, none⟩ (.int .i64 (z : Int)) = W2 at *
    obtain ⟨hrl, hpl, hrp⟩ := HM.out.lt
    have SELF : Hid (W2.heap[rp]? = _) := Lib.hid ((KP.out rp hrp).trans HM.out.self)
    have c6 : W2.cell? ⟨rp, 6, none⟩ = some (.slice ma N mc) := by rw [cell_of SELF.out, ← HN.out, ← HVM.out]; rfl
    have MEM : Hid (W2.ownsRow 0 5 1 vm S.mem.length (S.mem.map (Value.int .u8))) := Lib.hid (ownsRow_same HM.out.mem.1 (fun k hk => KP.out k (fun e => by
      obtain ⟨cur, hc⟩ := row_block HM.out.mem.1 hk
      rw [e, HM.out.purse] at hc
      simp at hc)))
    have ROW : Hid (OffRow W2 78 3 vb S.bl.length (S.bl.flatMap Blk.cells)) := Lib.hid (HM.out.row.1.same (fun k hk => KP.out k (fun e => by
      obtain ⟨cur, hc⟩ := HM.out.row.1.block hk
      rw [e, HM.out.purse] at hc
      simp at hc)))
    by_cases hzN : z = N
    · have hz' : ((z : Int) != (N : Int)) = false := by simp [hzN]
      have eS : S.mem' z = S := by unfold HpSt.mem'; rw [hzN, ← HN.out, reM_self]
      have FIN : Hid (FtPost w F rp pp M S kept vm vb vk vks z (.returned (.bool true)) W2) := Lib.hid (Or.inr ⟨hM, rfl, vm, F, by
        rw [eS]
        exact HM.out.re (fun _ h => h) SELF.out (by rw [HN.out, ← hzN]; exact PU.out) ⟨MEM.out, HM.out.mem.2⟩ HM.out.mb HM.out.msh ⟨ROW.out, fun k hk => ⟨HM.out.row.2 k hk, Or.inl hk⟩⟩ (fun k _ _ _ h _ _ => KP.out k h) HM.out.ord HM.out.hb ⟨HM.out.big.1, HM.out.big.2.1, HM.out.big.2.2.1, HM.out.big.2.2.2.1, HM.out.big.2.2.2.2.2.2⟩, Or.inl ⟨rfl, by rw [HN.out]; exact hzN⟩, fun _ h => Or.inl (Lost.self h), TT.out.mono (fun k hk => hk ▸ Lost.self HM.out.fp)⟩)
      clear eS hzN
      go_wp2_with fail
      go_ret
      exact FIN.out
    · have hz' : ((z : Int) != (N : Int)) = true := by simp; omega
      have MK := fun W => run_makeBytes W (z : Int) (z : Int) (by omega) (by omega) (by omega)
      simp only [Int.toNat_natCast] at MK
      have N3 : byteRow (W2.alloc (.cells ((zeros z).map (Value.int .u8)).toArray 5)) W2.heap.size (zeros z) := heap_alloc_new _ _
      have B3 : Below W2.heap.size W2 (W2.alloc (.cells ((zeros z).map (Value.int .u8)).toArray 5)) := (Below.refl _ _).alloc (Nat.le_refl _) _
      have hrl2 : rp < W2.heap.size := by omega
      have S3 := (B3.block rp hrl2).trans SELF.out
      have d6 : (W2.alloc (.cells ((zeros z).map (Value.int .u8)).toArray 5)).cell? ⟨rp, 6, none⟩ = some (.slice ma N mc) := old_cell B3 c6
      have rd : Reads (W2.alloc (.cells ((zeros z).map (Value.int .u8)).toArray 5)) .u8 (.slice ma N mc) S.mem := by
        have h1 := row_kept MEM.out B3
        rw [HVM.out] at h1
        rw [← HN.out]
        exact Reads.own h1 (by rw [HN.out]; omega)
      obtain ⟨w4, r, hcp, hrow, ht4⟩ := copy_min _ W2.heap.size z ma N mc (zeros z) S.mem N3 (by simp [zeros]) rd HN.out
      rw [reM_splice] at hrow
      have S4 := (ht4.block _ (lt_of S3) (by omega)).trans S3
      have hq4 : w4.cell? ⟨rp, 6, none⟩ = some vm := by rw [cell_of S4]; rfl
      have fz4 := free_of S4 6
      have sz4 : W2.heap.size < w4.heap.size := lt_of hrow
      have K5 : ∀ k, k < W2.heap.size → k ≠ rp → (w4.setCell ⟨rp, 6, none⟩ (.slice (some ⟨W2.heap.size, 0, none⟩) z z)).heap[k]? = W2.heap[k]? := fun k hk hne =>
        (Below.heap_setCell w4 ⟨rp, 6, none⟩ _ k hne).trans ((ht4.block k (Nat.lt_of_lt_of_le hk B3.size) (by omega)).trans (B3.block k hk))
      have hro5 : byteRow (w4.setCell ⟨rp, 6, none⟩ (.slice (some ⟨W2.heap.size, 0, none⟩) z z)) W2.heap.size (reM S.mem z) := hrow.other (g' := rp) (by omega) 6 _
      have T5 : Touch (fun k => k = pp ∨ k = rp) w (w4.setCell ⟨rp, 6, none⟩ (.slice (some ⟨W2.heap.size, 0, none⟩) z z)) := Touch.setCell (F := fun k => k = pp ∨ k = rp) (((TT.out.mono (fun k hk => Or.inl hk)).then (Touch.of_below B3)).trans ht4 (fun k hk => Or.inr (by omega))) (p := ⟨rp, 6, none⟩) (Or.inl (Or.inr rfl)) _
      have nrp : vm.ownBlock ≠ some rp := fun e => by
        obtain ⟨c2, h2⟩ := row_block HM.out.mem.1 e
        rw [HM.out.self] at h2; simp at h2
      have npp : vm.ownBlock ≠ some pp := fun e => by
        obtain ⟨c2, h2⟩ := row_block HM.out.mem.1 e
        rw [HM.out.purse] at h2; simp at h2
      have RL := reM_len S.mem z
      have FIN : Hid (FtPost w F rp pp M S kept vm vb vk vks z (.returned (.bool true)) (w4.setCell ⟨rp, 6, none⟩ (.slice (some ⟨W2.heap.size, 0, none⟩) z z))) := Lib.hid (Or.inr ⟨hM, rfl, .slice (some ⟨W2.heap.size, 0, none⟩) z z, fun k => (F k ∧ vm.ownBlock ≠ some k) ∨ k = W2.heap.size, by
        refine HM.out.re2 (fun k h => (Classical.em (vm.ownBlock = some k)).elim (fun e => Or.inr (by have := h.2 e; simp [Value.ownBlock] at this; exact this.symm)) (fun e => Or.inl ⟨h.1, e⟩)) (block_setCell S4 6 _) ?_ ⟨?_, ?_⟩ (reM_bytes HM.out.mb z) ?_ ⟨?_, ?_⟩ ?_ HM.out.ord ?_ ⟨?_, HM.out.big.2.1, HM.out.big.2.2.1, HM.out.big.2.2.2.1, ?_⟩
        · show _ = some (Obj.cells #[Value.int .i64 ((reM S.mem z).length : Int), .int .i64 (M : Int)] 37 (0, 0))
          rw [RL]
          exact (K5 pp (by omega) (Ne.symm hrp)).trans PU.out
        · have := hro5.owns (by rw [RL]; exact hz)
          show World.ownsRow _ 0 _ 1 _ (reM S.mem z).length ((reM S.mem z).map (Value.int .u8))
          rw [RL] at this ⊢
          exact this
        · intro k hk
          simp [Value.ownBlock] at hk
          exact Or.inr hk.symm
        · right
          refine ⟨W2.heap.size, ?_⟩
          show _ = Value.slice _ (reM S.mem z).length (reM S.mem z).length
          rw [RL]
        · exact ROW.out.same (fun k hk => K5 k (by obtain ⟨cur, hc⟩ := ROW.out.block hk; exact lt_of hc) (fun e => by
            obtain ⟨cur, hc⟩ := ROW.out.block hk
            rw [e, SELF.out] at hc
            simp at hc))
        · exact fun k hk => ⟨Or.inl ⟨HM.out.row.2 k hk, fun e => by
            obtain ⟨c1, h1⟩ := row_block HM.out.mem.1 e
            obtain ⟨c2, h2⟩ := HM.out.row.1.block hk
            rw [h1] at h2; simp at h2⟩, Or.inl hk⟩
        · exact fun k _ hk h1 h2 _ _ => (K5 k (by omega) h1).trans (KP.out k h2)
        · intro x hx
          have := HM.out.hb x hx
          refine ⟨this.1, this.2.1, ?_⟩
          show x.at' + x.len ≤ (reM S.mem z).length
          rw [RL]
          exact HIN.out x hx
        · show (reM S.mem z).length ≤ 100000
          rw [RL]; exact hz
        · show (reM S.mem z).length ≤ M
          rw [RL]; exact hM, MemTo.new (by rw [HN.out]; exact hzN) (fun k hk => by simp [Value.ownBlock] at hk; omega), fun k h => h.imp (fun e => Lost.not e.1 e.2) (fun e => by omega), T5.mono (fun k hk => hk.elim (fun e => e ▸ Lost.not HM.out.fp npp) (fun e => e ▸ Lost.not HM.out.fr nrp))⟩)
      clear hrow ht4 S3 S4 N3 K5 hro5 T5 RL rd hsz nrp npp
      go_wp2_with fail
      go_ret
      exact FIN.out

end
end Go.Proofs.YtjogaohnphafgaaGreat
