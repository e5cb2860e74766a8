/-
  The reference's book beside the plain machine: its entries are the last ones. No conditions.
  Several cells of a block stored to. No conditions.
  A row that begins anywhere in its block: what is left of it, and what is appended to it. No conditions but lengths.
-/
import Derived.Test.YtljjndifmfhffaaGreatDoorLedgerChecksPai
import Derived.Test.YtljjndifmfhffaaGreatDoorLedgerChecksPaa
import Derived.Test.YtljjndifmfhffaaGreatDoorLedgerChecksPad
import Derived.ArgAppend

namespace Go.Proofs.YtljjndifmfhffaaGreatDoor
section
set_option linter.unusedVariables false

/-- The last 5000. -/
def last5 (l : List Ent) : List Ent := l.drop (l.length - 5000)
theorem last5_of {l : List Ent} {k : Nat} (h : l.length - 5000 = k) : last5 l = l.drop k := by subst h; rfl
theorem last5_idem (l : List Ent) : last5 (last5 l) = last5 l := by
  unfold last5
  rw [List.length_drop, List.drop_drop]
  have e : l.length - 5000 + (l.length - (l.length - 5000) - 5000) = l.length - 5000 := by omega
  rw [e]
theorem last5_snoc (l : List Ent) (e : Ent) : last5 (last5 l ++ [e]) = last5 (l ++ [e]) := by
  by_cases h : l.length ≤ 5000
  · have e0 : last5 l = l := by unfold last5; rw [Nat.sub_eq_zero_of_le h, List.drop_zero]
    rw [e0]
  · have h2 : (l ++ [e]).length = l.length + 1 := by simp
    have e2 : (l ++ [e]).length - 5000 = (l.length - 5000) + 1 := by rw [h2]; clear h2; omega
    have hl : (last5 l).length = 5000 := by unfold last5; rw [List.length_drop]; omega
    have e1 : (last5 l ++ [e]).length - 5000 = 1 := by rw [List.length_append, hl, List.length_singleton]
    have u1 : last5 (last5 l ++ [e]) = (last5 l ++ [e]).drop 1 := last5_of e1
    have u2 : last5 (l ++ [e]) = (l ++ [e]).drop ((l.length - 5000) + 1) := last5_of e2
    have u3 : last5 l = l.drop (l.length - 5000) := rfl
    rw [u1, u2, List.drop_append_of_le_length (by omega), List.drop_append_of_le_length (by omega), u3, List.drop_drop]
theorem last5_trim (l : List Ent) : last5 (trimE l) = last5 l := by
  unfold trimE
  split
  · have e : 5001 + (l.length - 5001 - 5000) = l.length - 5000 := by omega
    unfold last5
    rw [List.length_drop, List.drop_drop, e]
  · rfl
theorem last5_note (st : BookSt) (e : Ent) : last5 (st.note e).entries = last5 (last5 st.entries ++ [e]) := by
  rw [last5_snoc]
  exact last5_trim _
theorem last5_len (l : List Ent) : (last5 l).length ≤ 5000 := by unfold last5; rw [List.length_drop]; omega

/-! Pass: the reference sorts all leases, and ends those that are over. -/
theorem leLea_trans (a b c : Lea) (h1 : leLea a b = true) (h2 : leLea b c = true) : leLea a c = true := by
  unfold leLea at *
  simp only [decide_eq_true_eq] at *
  omega
theorem leLea_total (a b : Lea) : (leLea a b || leLea b a) = true := by
  unfold leLea
  simp only [Bool.or_eq_true, decide_eq_true_eq]
  omega
theorem leLea_anti {a b : Lea} (h1 : leLea a b = true) (h2 : leLea b a = true) : a.untl = b.untl ∧ a.no = b.no := by
  unfold leLea at *
  simp only [decide_eq_true_eq] at *
  omega
theorem over_sorted {st : BookSt} (g : Good st) (now : Int) : (st.leases.mergeSort leLea).filter (fun l => decide (l.untl ≤ now)) = overL st now := by
  unfold overL
  have hp : ((st.leases.mergeSort leLea).filter (fun l => decide (l.untl ≤ now))).Perm ((st.leases.filter fun l => decide (l.untl ≤ now)).mergeSort leLea) :=
    ((List.mergeSort_perm st.leases leLea).filter _).trans (List.mergeSort_perm _ leLea).symm
  have h1 : ((st.leases.mergeSort leLea).filter (fun l => decide (l.untl ≤ now))).Pairwise (fun a b => leLea a b = true) :=
    (List.pairwise_mergeSort leLea_trans leLea_total st.leases).filter _
  have h2 : ((st.leases.filter fun l => decide (l.untl ≤ now)).mergeSort leLea).Pairwise (fun a b => leLea a b = true) := List.pairwise_mergeSort leLea_trans leLea_total _
  refine hp.eq_of_pairwise (fun a b ha hb hab hba => ?_) h1 h2
  have ha' : a ∈ st.leases := by
    have := List.mem_filter.1 ha
    exact (List.mergeSort_perm st.leases leLea).mem_iff.1 this.1
  have hb' : b ∈ st.leases := by
    have := (List.mergeSort_perm _ leLea).mem_iff.1 hb
    exact (List.mem_filter.1 this).1
  have hno := (leLea_anti hab hba).2
  obtain ⟨i, hi, rfl⟩ := List.mem_iff_getElem.1 ha'
  obtain ⟨j, hj, rfl⟩ := List.mem_iff_getElem.1 hb'
  have hpw := List.pairwise_iff_getElem.1 g.nos
  rcases Nat.lt_trichotomy i j with h | rfl | h
  · have := hpw i j (by simpa using hi) (by simpa using hj) h
    simp at this; omega
  · rfl
  · have := hpw j i (by simpa using hj) (by simpa using hi) h
    simp at this; omega

theorem sumN_le {f g : Int → Int} : ∀ n : Nat, (∀ o : Int, 1 ≤ o → o ≤ n → f o ≤ g o) → sumN f n ≤ sumN g n
  | 0, _ => Int.le_refl _
  | n + 1, h => by
    have h1 := sumN_le n (fun o h1 h2 => h o h1 (by omega))
    have h2 := h ((n : Int) + 1) (by omega) (by omega)
    simp only [sumN]; omega
/-! How many accounts there are. -/
def accOne (a : Option (Int × Int × Int)) : Int := if a.isSome then 1 else 0
def accCnt (acc : Int → Option (Int × Int × Int)) : Int := sumN (fun o => accOne (acc o)) 40
theorem accCnt_le (acc : Int → Option (Int × Int × Int)) : accCnt acc ≤ 40 := by
  have h := sumN_le (f := fun o => accOne (acc o)) (g := fun _ => 1) 40 (fun o _ _ => by show accOne (acc o) ≤ 1; unfold accOne; split <;> omega)
  have e : sumN (fun _ => 1) 40 = 40 := by decide
  rw [e] at h
  exact h
theorem accCnt_upd (acc : Int → Option (Int × Int × Int)) (o : Int) (a : Option (Int × Int × Int)) (h1 : 1 ≤ o) (h2 : o ≤ 40) : accCnt (fun x => if x = o then a else acc x) = accCnt acc - accOne (acc o) + accOne a := by
  unfold accCnt
  rw [← sumN_upd (fun o => accOne (acc o)) o (accOne a) 40 h1 h2]
  exact sumN_congr 40 (fun x _ _ => by by_cases h : x = o <;> simp [h])

end
end Go.Proofs.YtljjndifmfhffaaGreatDoor

namespace Go.Proofs.YtljjndifmfhffaaGreatDoor
section
open Go.RowKit
set_option linter.unusedVariables false

theorem heap_setCells_other (b : Nat) : ∀ (vs : List Value) (o : Nat) (w : World) (k : Nat), k ≠ b → (w.setCells b o vs).heap[k]? = w.heap[k]?
  | [], _, _, _, _ => rfl
  | v :: vs, o, w, k, h => (heap_setCells_other b vs (o + 1) _ k h).trans (Below.heap_setCell w ⟨b, o, none⟩ v k h)
theorem size_setCells (b : Nat) : ∀ (vs : List Value) (o : Nat) (w : World), (w.setCells b o vs).heap.size = w.heap.size
  | [], _, _ => rfl
  | v :: vs, o, w => (size_setCells b vs (o + 1) _).trans (by simp [World.setCell])
theorem setCells_rest (b : Nat) : ∀ (vs : List Value) (o : Nat) (w : World), (w.setCells b o vs).os = w.os ∧ (w.setCells b o vs).tape = w.tape ∧ (w.setCells b o vs).output = w.output
  | [], _, _ => ⟨rfl, rfl, rfl⟩
  | v :: vs, o, w => setCells_rest b vs (o + 1) _
theorem block_setCells {b : Nat} {t : TypeId} : ∀ (vs : List Value) (o : Nat) (w : World) (cur : Array Value), w.heap[b]? = some (.cells cur t (0, 0)) → o + vs.length ≤ cur.size →
    ∃ cur', (w.setCells b o vs).heap[b]? = some (.cells cur' t (0, 0)) ∧ cur'.size = cur.size ∧ cur'.toList = cur.toList.take o ++ vs ++ cur.toList.drop (o + vs.length)
  | [], o, w, cur, h, _ => ⟨cur, h, rfl, by simp⟩
  | v :: vs, o, w, cur, h, hl => by
    simp at hl
    obtain ⟨cur', h1, h2, h3⟩ := block_setCells vs (o + 1) (w.setCell ⟨b, o, none⟩ v) (cur.setIfInBounds o v) (block_setCell h o v) (by simp; omega)
    refine ⟨cur', h1, by simpa using h2, ?_⟩
    rw [h3, Array.toList_setIfInBounds]
    have ho : o < cur.toList.length := by simp; omega
    rw [List.drop_set_of_lt (by omega), List.take_add_one, List.take_set_of_le (by omega), List.getElem?_set_self ho]
    simp [Nat.add_comm, Nat.add_left_comm]

end
end Go.Proofs.YtljjndifmfhffaaGreatDoor

namespace Go.Proofs.YtljjndifmfhffaaGreatDoor
section
open Go.RowKit
set_option linter.unusedVariables false

/-- A row of its own that may begin behind its block's beginning. -/
def OffRow (w : World) (e size : Nat) (v : Value) (n : Nat) (xs : List Value) : Prop :=
  xs.length = n * size ∧ ((v = .slice none 0 0 ∧ n = 0) ∨ ∃ g off cap cur, v = .slice (some ⟨g, off, none⟩) n cap ∧ w.heap[g]? = some (.cells cur e (0, 0)) ∧ n ≤ cap ∧ cap ≤ maxLen ∧ off + cap * size ≤ cur.size ∧ (cur.toList.drop off).take (n * size) = xs)

theorem OffRow.nil (w : World) (e size : Nat) : OffRow w e size (.slice none 0 0) 0 [] := ⟨by simp, .inl ⟨rfl, rfl⟩⟩
theorem OffRow.of_own {w : World} {B e size n : Nat} {v : Value} {xs : List Value} (h : w.ownsRow B e size v n xs) : OffRow w e size v n xs := by
  refine ⟨h.1, ?_⟩
  rcases h.2 with h2 | ⟨g, cap, cur, hv, hB, hg, hn, hm, hs, ht⟩
  · exact .inl h2
  · exact .inr ⟨g, 0, cap, cur, hv, hg, hn, hm, by omega, by simpa using ht⟩
theorem OffRow.same {w w' : World} {e size n : Nat} {v : Value} {xs : List Value} (h : OffRow w e size v n xs) (hs : ∀ k, v.ownBlock = some k → w'.heap[k]? = w.heap[k]?) : OffRow w' e size v n xs := by
  refine ⟨h.1, ?_⟩
  rcases h.2 with h2 | ⟨g, off, cap, cur, rfl, hg, rest⟩
  · exact .inl h2
  · exact .inr ⟨g, off, cap, cur, rfl, (hs g rfl).trans hg, rest⟩
theorem OffRow.block {w : World} {e size n : Nat} {v : Value} {xs : List Value} (h : OffRow w e size v n xs) {k : Nat} (hk : v.ownBlock = some k) : ∃ cur, w.heap[k]? = some (.cells cur e (0, 0)) := by
  rcases h.2 with ⟨rfl, _⟩ | ⟨g, off, cap, cur, rfl, hg, _⟩
  · simp [Value.ownBlock] at hk
  · simp [Value.ownBlock] at hk; subst hk; exact ⟨cur, hg⟩
theorem OffRow.sh {w : World} {e size n : Nat} {v : Value} {xs : List Value} (h : OffRow w e size v n xs) : ∃ a c, v = .slice a n c ∧ n ≤ c ∧ c ≤ maxLen := by
  rcases h.2 with ⟨rfl, rfl⟩ | ⟨g, off, cap, cur, rfl, _, h1, h2, _⟩
  · exact ⟨_, _, rfl, Nat.le_refl _, Nat.zero_le _⟩
  · exact ⟨_, _, rfl, h1, h2⟩
theorem OffRow.cell {w : World} {e size n g off cap : Nat} {xs : List Value} (h : OffRow w e size (.slice (some ⟨g, off, none⟩) n cap) n xs) {j : Nat} {u : Value} (hj : xs[j]? = some u) : w.cell? ⟨g, off + j, none⟩ = some u := by
  rcases h.2 with ⟨h1, _⟩ | ⟨g', off', cap', cur, hv, hg, hn, hm, hs, ht⟩
  · simp at h1
  · simp only [Value.slice.injEq, Option.some.injEq, Addr.mk.injEq, and_true, true_and] at hv
    obtain ⟨⟨rfl, rfl⟩, rfl⟩ := hv
    have hjl : j < n * size := by rw [← h.1]; exact (List.getElem?_eq_some_iff.1 hj).1
    rw [cell_of hg, ← Array.getElem?_toList]
    rw [← ht, List.getElem?_take_of_lt hjl, List.getElem?_drop] at hj
    exact hj

/-- What is left behind the first k. -/
theorem OffRow.drop {w : World} {e size n g off cap : Nat} {xs : List Value} (h : OffRow w e size (.slice (some ⟨g, off, none⟩) n cap) n xs) {k : Nat} (hk : k ≤ n) :
    OffRow w e size (.slice (some ⟨g, off + k * size, none⟩) (n - k) (cap - k)) (n - k) (xs.drop (k * size)) := by
  rcases h.2 with ⟨h1, _⟩ | ⟨g', off', cap', cur, hv, hg, hn, hm, hs, ht⟩
  · simp at h1
  · simp only [Value.slice.injEq, Option.some.injEq, Addr.mk.injEq, and_true, true_and] at hv
    obtain ⟨⟨rfl, rfl⟩, rfl⟩ := hv
    refine ⟨by rw [List.length_drop, h.1, Nat.sub_mul], .inr ⟨g, off + k * size, cap - k, cur, rfl, hg, by omega, by omega, ?_, ?_⟩⟩
    · rw [Nat.sub_mul]
      have := Nat.mul_le_mul_right size (show k ≤ cap by omega)
      omega
    · rw [← ht, List.drop_take, List.drop_drop, Nat.sub_mul]

/-- One append: in place, or in a new block. -/
theorem run_append_off {P : Program} (w : World) (t ty e : TypeId) (i : TypeInfo) (z : Value) (size bytes : Nat) (ht : P.underlying t = some (.slice e)) (hi : P.info? e = some i) (hz : i.zero = some z)
    (hsize : i.size = size) (hby : i.bytes = bytes) (hzs : z.cells.size = size) (hsz : 0 < size)
    (v : Value) (n : Nat) (xs : List Value) (hown : OffRow w e size v n xs)
    (a : Addr) (m c : Nat) (news : List Value) (hl : news.length = m * size) (hnews : ∀ j u, news[j]? = some u → w.cell? (a.add j) = some u) (h1 : ∀ u ∈ news, u.oneCell' = true)
    (hm : 0 < m) (h63 : n + m ≤ maxLen) (hbytes : (n + m) * bytes ≤ 140737488355328) :
    ∃ g off cap w', (Builtin.append_ #[t, t] ty #[v, .slice (some a) m c]).run P w = .ok (.slice (some ⟨g, off, none⟩) (n + m) cap) w' ∧ OffRow w' e size (.slice (some ⟨g, off, none⟩) (n + m) cap) (n + m) (xs ++ news) ∧ w.grownBy w' v.ownBlock ∧
      (v.ownBlock = some g ∨ w.heap.size ≤ g) := by
  rcases hown.2 with ⟨rfl, rfl⟩ | ⟨g, off, cap, cur, rfl, hg, hn, hc, hs, htk⟩
  · have hx : xs = [] := List.eq_nil_of_length_eq_zero (by rw [hown.1]; simp)
    subst hx
    obtain ⟨g, cap, w', hr, ho, hgr, hp⟩ := run_append_place (P := P) w 0 t ty e i z size bytes ht hi hz hsize hby hzs hsz (.slice none 0 0) 0 [] (World.ownsRow_nil _ _ _ _) a m c news hl hnews h1 hm h63 hbytes (Nat.zero_le _)
    exact ⟨g, 0, cap, w', hr, .of_own ho, hgr, hp⟩
  · by_cases hroom : n + m ≤ cap
    · have hmul : n * size + m * size ≤ cap * size := by rw [← Nat.add_mul]; exact Nat.mul_le_mul_right _ hroom
      subst hsize
      have hr := run_append_room_cells (P := P) (w := w) t ty e i ht hi g off n cap a m c news hl hnews h1 hroom
        (fun j hj => by rw [cell_of hg, Array.getElem?_eq_getElem (by omega)]; rfl) (fun j hj => free_of hg _)
      obtain ⟨cur', k1, k2, k3⟩ := block_setCells news (off + n * i.size) w cur hg (by omega)
      refine ⟨g, off, cap, _, hr, ⟨by rw [List.length_append, hown.1, hl, Nat.add_mul], .inr ⟨g, off, cap, cur', rfl, k1, hroom, hc, by rw [k2]; exact hs, ?_⟩⟩, ?_, Or.inl rfl⟩
      · rw [k3]
        have hlt : (cur.toList.take (off + n * i.size)).length = off + n * i.size := by rw [List.length_take]; simp; omega
        rw [List.append_assoc, List.drop_append_of_le_length (by omega), List.drop_take]
        have e1 : off + n * i.size - off = n * i.size := by omega
        rw [e1, htk, ← List.append_assoc]
        refine List.take_left' ?_
        rw [List.length_append, hown.1, hl, Nat.add_mul]
      · obtain ⟨r1, r2, r3⟩ := setCells_rest g news (off + n * i.size) w
        refine ⟨r1, r2, r3, ?_, ?_⟩
        · rw [size_setCells]; exact Nat.le_refl _
        · exact fun k hk hne => heap_setCells_other g news _ w k (fun e => hne (by rw [e]; rfl))
    · have hlo : xs.length = n * size := hown.1
      obtain ⟨v', w', hr, ho, hgr⟩ := run_append_arg_grows (P := P) (w := w) t ty e i z size bytes ht hi hz hsize hby hzs hsz ⟨g, off, none⟩ n cap xs hlo (fun j u hj => by
        have e1 : (⟨g, off, none⟩ : Addr).add j = ⟨g, off + j, none⟩ := by unfold Addr.add; split <;> simp_all
        rw [e1]; exact hown.cell hj) a m c news hl hnews (by omega) h63 hbytes
      rcases ho.2 with ⟨_, h0⟩ | ⟨g2, cap2, cur2, rfl, hb2, hg2, rest⟩
      · omega
      refine ⟨g2, 0, cap2, w', hr, .of_own ho, ⟨hgr.os, hgr.tape, hgr.output, hgr.size, fun k hk _ => hgr.block k hk (by simp)⟩, Or.inr hb2⟩

/-- 'x.f = append(x.f, y)' in a region that draws: y lies in the block just made; the row may begin anywhere. -/
theorem step_append_off {P : Program} {ops : Array Oper} {o : Oper} {a : Act} {K : Act → World → Prop} {Q : Exit → Act → World → Prop} {E : Prop}
    (hg : o.guard = none) (s x : Operand) (t : TypeId) (hop : o.op = Op.call { callee := Callee.builtin Builtin.append, args := #[s, x], argTypes := #[t, t] })
    (e : TypeId) (i : TypeInfo) (z : Value) (size bytes : Nat) (ht : P.underlying t = some (.slice e)) (hi : P.info? e = some i) (hz : i.zero = some z)
    (hsize : i.size = size) (hby : i.bytes = bytes) (hzs : z.cells.size = size) (hsz : 0 < size)
    (v : Value) (n : Nat) (xs : List Value) (wr : World) (e' : TypeId) (us : List Value) (hs : a.eval s = v) (hown : OffRow wr e size v n xs)
    (hx : a.eval x = .slice (some ⟨wr.heap.size, 0, none⟩) 1 1) (hl : us.length = size) (h1 : ∀ u ∈ us, u.oneCell' = true)
    (h63 : n + 1 ≤ maxLen) (hbytes : (n + 1) * bytes ≤ 140737488355328)
    (h : ∀ g off cap w', OffRow w' e size (.slice (some ⟨g, off, none⟩) (n + 1) cap) (n + 1) (xs ++ us) → wr.grownBy w' v.ownBlock → (v.ownBlock = some g ∨ wr.heap.size ≤ g) → wr.heap.size < w'.heap.size → K (a.put o.dst (.slice (some ⟨g, off, none⟩) (n + 1) cap)) w') :
    if Region.wanted o (yielded ops a.tmps) = true then Oper.wp P o a (wr.alloc (.cells us.toArray e')) K Q else E := by
  have hw : Region.wanted o (yielded ops a.tmps) = true := by simp [Region.wanted, hg]
  rw [if_pos hw]
  have hnews : ∀ j u, us[j]? = some u → (wr.alloc (.cells us.toArray e')).cell? ((⟨wr.heap.size, 0, none⟩ : Addr).add j) = some u := by
    intro j u hj
    have e1 : (⟨wr.heap.size, 0, none⟩ : Addr).add j = ⟨wr.heap.size, j, none⟩ := by unfold Addr.add; split <;> simp_all
    rw [e1, cell_of_row _ _ _ _ _ _ (heap_alloc_new wr _)]
    simpa using hj
  have hown' : OffRow (wr.alloc (.cells us.toArray e')) e size v n xs := hown.same (fun k hk => by
    obtain ⟨cur, hc⟩ := hown.block hk
    exact heap_alloc_old wr _ (lt_of hc))
  obtain ⟨g, off, cap, w', hr, ho, hg', hp⟩ := run_append_off (P := P) (wr.alloc (.cells us.toArray e')) t o.type e i z size bytes ht hi hz hsize hby hzs hsz v n xs hown' ⟨wr.heap.size, 0, none⟩ 1 1 us (by omega) hnews h1 (by omega) h63 hbytes
  unfold Oper.wp execOp
  simp only [hop, resolve, invoke, builtin, Sem.run_bind, Sem.run_pure, Result.andThen_ok, List.map_toArray, List.map_cons, List.map_nil, hs, hx, hr]
  have hg2 : wr.grownBy w' v.ownBlock := ⟨hg'.os, hg'.tape, hg'.output, Nat.le_trans (by simp) hg'.size, fun k hk hne => (hg'.block k (by simp; omega) hne).trans (heap_alloc_old wr _ hk)⟩
  exact h g off cap w' ho hg2 (hp.imp id (fun x => by simp at x; omega)) (by have := hg'.size; simp at this; omega)

end
end Go.Proofs.YtljjndifmfhffaaGreatDoor
