/-
  The reference's heap: place and room together, as the program's; octets of the memory are others. No conditions but bounds and blocks apart.
-/
import Derived.Test.YtjogaohnphafgaaGreatMoveRunsPbf
namespace Go.Proofs.YtjogaohnphafgaaGreat
open Go.RowKit
set_option linter.unusedVariables false

theorem gapsG_last : ∀ (L : List Blk) (a N : Nat), (match L.getLast? with | none => a | some x => x.at' + x.len) < N → ∃ g ∈ gapsG a (L ++ [(⟨0, N, 0⟩ : Blk)]), g.len = N - (match L.getLast? with | none => a | some x => x.at' + x.len)
  | [], a, N, h => by
    simp at h
    exact ⟨⟨a, N - a⟩, by simp [gapsG, h], rfl⟩
  | x :: l, a, N, h => by
    have e : (match (x :: l).getLast? with | none => a | some x => x.at' + x.len) = (match l.getLast? with | none => x.at' + x.len | some y => y.at' + y.len) := by
      cases l with
      | nil => rfl
      | cons y l =>
        rw [List.getLast?_cons_cons]
        cases hg : (y :: l).getLast? with
        | none => simp at hg
        | some z => rfl
    rw [e] at h ⊢
    obtain ⟨g, hg, hl⟩ := gapsG_last l (x.at' + x.len) N h
    exact ⟨g, by rw [List.cons_append]; unfold gapsG; exact List.mem_append_right _ hg, hl⟩
/-- Where no gap is found, behind the last block there is too little. -/
theorem gapSel_none_end {N n : Nat} {L : List Blk} {way : Int} (h : gapSel N L n way = none) (h0 : 0 < n) : N < endL L + n := by
  rcases Nat.lt_or_ge N (endL L + n) with h1 | h1
  · exact h1
  · exfalso
    have e : (match L.getLast? with | none => 0 | some x => x.at' + x.len) = endL L := rfl
    obtain ⟨g, hg, hl⟩ := gapsG_last L 0 N (by rw [e]; omega)
    rw [e] at hl
    have hm : g ∈ gapC N L n := by
      unfold gapC gapsOf
      refine List.mem_filter.2 ⟨hg, ?_⟩
      simp
      omega
    unfold gapSel at h
    split at h
    · rw [List.head?_eq_none_iff.1 h] at hm; simp at hm
    · cases hc : gapC N L n with
      | nil => rw [hc] at hm; simp at hm
      | cons y l => rw [hc] at h; simp [minG] at h

theorem growR_ge {k s m room need : Int} (hk : 1 ≤ k ∧ k ≤ 5) (hs : k = 2 → 1 ≤ s ∧ s ≤ 100000) (hn : 0 ≤ need ∧ need ≤ 100000) (hm : need ≤ m) (hr : room < need) : need ≤ growR k s m room need := by
  unfold growR
  rw [if_neg (by omega)]
  have : need ≤ wishI k s room need := by
    have hkk : k = 1 ∨ k = 2 ∨ k = 3 ∨ k = 4 ∨ k = 5 := by omega
    rcases hkk with rfl | rfl | rfl | rfl | rfl
    · simp [wishI]
    · obtain ⟨hs1, hs2⟩ := hs rfl
      have := (mul_bd need s hn.1 hn.2 hs1 hs2).2.2.1
      simpa [wishI] using this
    · simp [wishI]; omega
    · simp [wishI]; omega
    · have := (cfor_bd need hn.1 hn.2).1
      simpa [wishI] using this
  omega

def RpRes (S : HpSt) (M n : Nat) (way : Int) (w : World) : Ending → World → Prop := fun e w' => Below w.heap.size w w' ∧
  ((∃ er, er ≠ 0 ∧ PlNo S M n way er ∧ e = .returned (.tuple #[.int .i64 0, .int .i64 0, .int .i64 er])) ∨
   (∃ at' z : Nat, e = .returned (.tuple #[.int .i64 (at' : Int), .int .i64 (z : Int), .int .i64 0]) ∧ z ≤ 100000 ∧ S.mem.length ≤ z ∧ at' + n ≤ z ∧ (z ≤ M → PlOk S M n way at' (reM S.mem z)) ∧ (M < z → PlNo S M n way 12)))

theorem placedR_any {w : World} {F : Nat → Prop} {rp pp M : Nat} {S : HpSt} {kept : List (List Blk)} {vm vb vk : Value} {vks : List Value} (m : RfMem w F rp pp M S kept vm vb vk vks) (hap : S.bl.Pairwise apartB) (hp : polErr S.k S.s S.m = 0)
    (n : Nat) (hn : n ≤ 100000) (h0 : 0 < n) (way : Int) (hw : way = 1 ∨ way = 2) :
    Calls Tryz.prog 37 #[.pointer (some ⟨rp, 0, none⟩), .int .i64 (n : Int), .int .i64 way] w (RpRes S M n way w) := by
  obtain ⟨L, hL⟩ := sorted_exists (lieL S.bl)
  obtain ⟨pk, ps, pm⟩ := pol_ok hp
  have hml := m.big.1
  have hmM := m.big.2.2.2.2.2.2
  refine (placeR_any m hap hp hL n hn way hw).mono ?_
  rintro e w' ⟨hb, ⟨g, hg, rfl⟩ | ⟨hg, ⟨h1, rfl⟩ | ⟨h1, h2, rfl⟩ | ⟨h1, h2, rfl⟩⟩⟩
  · have hin := gapSel_in hg
    have h3 := gapsOf_in (fun x hx => by have := (m.hb x (hL.mem hx).1).2.2; omega) g hin.1
    exact ⟨hb, Or.inr ⟨g.at', S.mem.length, rfl, hml, Nat.le_refl _, by omega, fun _ => ⟨L, L, hL, hL, Or.inl ⟨g, hg, rfl, reM_self _⟩⟩, fun h => by omega⟩⟩
  · exact ⟨hb, Or.inl ⟨4, by decide, ⟨L, L, hL, hL, hg, Or.inl ⟨h1, rfl⟩⟩, rfl⟩⟩
  · have hend := gapSel_none_end hg h0
    have eg : growE S.k S.s S.m S.mem.length ((endL L + n : Nat) : Int) = 12 := by
      unfold growE gE
      rw [if_pos hp, if_pos ⟨⟨by omega, by omega⟩, by omega, by omega⟩, if_neg (by omega), if_pos h2]
    exact ⟨hb, Or.inl ⟨12, by decide, ⟨L, L, hL, hL, hg, Or.inr (Or.inl ⟨h1, eg.symm, by decide⟩)⟩, rfl⟩⟩
  · have hend := gapSel_none_end hg h0
    have eg : growE S.k S.s S.m S.mem.length ((endL L + n : Nat) : Int) = 0 := by
      unfold growE gE
      rw [if_pos hp, if_pos ⟨⟨by omega, by omega⟩, by omega, by omega⟩, if_neg (by omega), if_neg (by omega)]
    have bd := growR_bd (k := S.k) (s := S.s) (m := S.m) (room := S.mem.length) (need := ((endL L + n : Nat) : Int)) pk ps pm ⟨by omega, by omega⟩ ⟨by omega, by omega⟩
    have ge := growR_ge (k := S.k) (s := S.s) (m := S.m) (room := S.mem.length) (need := ((endL L + n : Nat) : Int)) pk ps ⟨by omega, by omega⟩ h2 (by omega)
    have ev : growV S.k S.s S.m S.mem.length ((endL L + n : Nat) : Int) = growR S.k S.s S.m S.mem.length ((endL L + n : Nat) : Int) := by
      unfold growV
      rw [if_pos ⟨hp, ⟨by omega, by omega⟩, by omega, by omega⟩, growR_gV h2]
    obtain ⟨z, hz⟩ : ∃ z : Nat, growR S.k S.s S.m S.mem.length ((endL L + n : Nat) : Int) = (z : Int) := ⟨(growR S.k S.s S.m S.mem.length ((endL L + n : Nat) : Int)).toNat, by omega⟩
    rw [hz] at bd ge ev ⊢
    refine ⟨hb, Or.inr ⟨endL L, z, rfl, by omega, by omega, by omega, fun hzM => ⟨L, L, hL, hL, Or.inr ⟨hg, h1, eg, rfl, z, ev, Or.inr hzM, by omega, by omega, by omega, rfl⟩⟩, fun hzM => ⟨L, L, hL, hL, hg, Or.inr (Or.inr ⟨h1, eg, z, ev, by omega, hzM, rfl⟩)⟩⟩⟩

theorem RfMem.bytes {w : World} {F : Nat → Prop} {rp pp M : Nat} {S : HpSt} {kept : List (List Blk)} {vm vb vk : Value} {vks : List Value} (m : RfMem w F rp pp M S kept vm vb vk vks) (h0 : 0 < S.mem.length) : ∃ g, vm = .slice (some ⟨g, 0, none⟩) S.mem.length S.mem.length ∧ byteRow w g S.mem ∧ F g := by
  rcases m.msh with ⟨_, h1⟩ | ⟨g, hg⟩
  · omega
  · refine ⟨g, hg, ?_, m.mem.2 g (by rw [hg]; rfl)⟩
    rcases m.mem.1.2 with ⟨h1, h2⟩ | ⟨g', cap, cur, h1, _, hb, hle, _, hsz, htk⟩
    · omega
    · rw [hg] at h1
      simp only [Value.slice.injEq, Option.some.injEq, Addr.mk.injEq, and_true] at h1
      obtain ⟨rfl, _, rfl⟩ := h1
      have e : cur = (S.mem.map (Value.int .u8)).toArray := by
        rw [← htk, List.take_of_length_le (by rw [Array.length_toList, hsz]; omega)]
      rw [e] at hb
      exact hb
/-- The memory's octets are others. -/
theorem RfMem.octs {w w' : World} {F : Nat → Prop} {rp pp M g : Nat} {S : HpSt} {kept : List (List Blk)} {vm vb vk : Value} {vks : List Value} (m : RfMem w F rp pp M S kept vm vb vk vks) {cs : List Int} (hg : vm = .slice (some ⟨g, 0, none⟩) S.mem.length S.mem.length) (hr : byteRow w' g cs) (hl : cs.length = S.mem.length) (hb : Go.Proofs.YtjogaohnphafgaaGreat.bytes cs) (ht : Touch (fun k => k = g) w w') :
    RfMem w' F rp pp M { S with mem := cs } kept vm vb vk vks := by
  have hg1 : vm.ownBlock = some g := by rw [hg]; rfl
  have far : ∀ {k : Nat} {cur : Array Value} {e : TypeId}, w.heap[k]? = some (.cells cur e (0, 0)) → e ≠ 5 → w'.heap[k]? = w.heap[k]? := fun {k cur e} hk he => ht.block k (lt_of hk) (fun e2 => by
    obtain ⟨c2, h2⟩ := row_block m.mem.1 hg1
    rw [← e2, hk] at h2
    simp at h2
    exact he h2.2)
  refine m.re (fun _ h => h) ((far m.self (by decide)).trans m.self) ?_ ⟨?_, m.mem.2⟩ hb ?_ ⟨?_, fun k hk => ⟨m.row.2 k hk, Or.inl hk⟩⟩ (fun k _ hk _ _ hv _ => ht.block k hk (fun e => hv (e ▸ hg1))) m.ord (fun x hx => ?_) ⟨?_, m.big.2.1, m.big.2.2.1, m.big.2.2.2.1, ?_⟩
  · show _ = some (Obj.cells #[Value.int .i64 (cs.length : Int), .int .i64 (M : Int)] 37 (0, 0))
    rw [hl]
    exact (far m.purse (by decide)).trans m.purse
  · have := hr.owns (by rw [hl]; exact m.big.1)
    rw [hg]
    show w'.ownsRow 0 _ 1 (.slice (some ⟨g, 0, none⟩) S.mem.length S.mem.length) cs.length _
    rw [hl] at this ⊢
    exact this
  · show memSh vm cs.length
    rw [hl]; exact m.msh
  · exact m.row.1.same (fun k hk => by obtain ⟨cur, hc⟩ := m.row.1.block hk; exact far hc (by decide))
  · show 1 ≤ x.h ∧ x.h ≤ S.last ∧ x.at' + x.len ≤ cs.length
    rw [hl]; exact m.hb x hx
  · show cs.length ≤ 100000
    rw [hl]; exact m.big.1
  · show cs.length ≤ M
    rw [hl]; exact m.big.2.2.2.2.2.2
/-- clear of octets of the memory. -/
theorem RfMem.clr {w : World} {F : Nat → Prop} {rp pp M : Nat} {S : HpSt} {kept : List (List Blk)} {vm vb vk : Value} {vks : List Value} (m : RfMem w F rp pp M S kept vm vb vk vks) (at' n c : Nat) (f : Option Addr) (hle : at' + n ≤ S.mem.length)
    (hf : 0 < n → ∃ g, vm = .slice (some ⟨g, 0, none⟩) S.mem.length S.mem.length ∧ f = some ⟨g, at', none⟩) :
    ∃ w', (∀ ty, (Builtin.clear_ #[38] ty #[.slice f n c]).run Tryz.prog w = .ok (.tuple #[]) w') ∧ RfMem w' F rp pp M { S with mem := fill 0 S.mem at' n } kept vm vb vk vks ∧ Touch (fun k => vm.ownBlock = some k) w w' := by
  by_cases h0 : n = 0
  · subst h0
    refine ⟨w, fun ty => ?_, m, Touch.refl _ _⟩
    cases f with
    | none => simp [Builtin.clear_, run_underlying Tryz.underlying38]
    | some a => simp [Builtin.clear_, run_underlying Tryz.underlying38]
  · obtain ⟨g, hg, hrow, _⟩ := m.bytes (by omega)
    obtain ⟨w', h1, h2, h3⟩ := clear_fact w g at' n c f S.mem hrow hle (fun hn => by
      obtain ⟨g', hg', hf'⟩ := hf hn
      rw [hg] at hg'
      simp only [Value.slice.injEq, Option.some.injEq, Addr.mk.injEq, and_true] at hg'
      rw [hg']; exact hf')
    exact ⟨w', h1, m.octs hg h2 (fill_len _ _ _ _) (fill_bytes m.mb _ _) h3, h3.mono (fun k hk => by rw [hg, hk]; rfl)⟩

end Go.Proofs.YtjogaohnphafgaaGreat
