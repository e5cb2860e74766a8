/-
  What always holds of a book, as a plain machine. No conditions.
-/
import Derived.Test.YtfnmjlnpfoclbaaGreatQueueRunsPak
namespace Go.Proofs.YtfnmjlnpfoclbaaGreat
set_option linter.unusedVariables false

/-! Sums over the owners, over the leases. -/
def sumN (f : Int → Int) : Nat → Int
  | 0 => 0
  | n + 1 => sumN f n + f ((n : Int) + 1)
theorem sumN_congr {f g : Int → Int} : ∀ n : Nat, (∀ o : Int, 1 ≤ o → o ≤ n → f o = g o) → sumN f n = sumN g n
  | 0, _ => rfl
  | n + 1, h => by
    unfold sumN
    rw [sumN_congr n (fun o h1 h2 => h o h1 (by omega)), h ((n : Int) + 1) (by omega) (by omega)]
theorem sumN_upd (f : Int → Int) (o v : Int) : ∀ n : Nat, 1 ≤ o → o ≤ n → sumN (fun x => if x = o then v else f x) n = sumN f n - f o + v
  | 0, h1, h2 => by omega
  | n + 1, h1, h2 => by
    unfold sumN
    by_cases h : o = (n : Int) + 1
    · have : sumN (fun x => if x = o then v else f x) n = sumN f n := sumN_congr n (fun x h3 h4 => if_neg (by omega))
      rw [this, if_pos h.symm, h]; omega
    · rw [sumN_upd f o v n h1 (by omega), if_neg (fun e => h e.symm)]; omega
theorem sumN_nonneg {f : Int → Int} : ∀ n : Nat, (∀ o : Int, 1 ≤ o → o ≤ n → 0 ≤ f o) → 0 ≤ sumN f n
  | 0, _ => by simp [sumN]
  | n + 1, h => by
    have := sumN_nonneg n (fun o h1 h2 => h o h1 (by omega))
    have := h ((n : Int) + 1) (by omega) (by omega)
    unfold sumN; omega
theorem sumN_ge {f : Int → Int} {o : Int} (n : Nat) (h : ∀ o : Int, 1 ≤ o → o ≤ n → 0 ≤ f o) (h1 : 1 ≤ o) (h2 : o ≤ n) : f o ≤ sumN f n := by
  have a := sumN_upd f o 0 n h1 h2
  have b := sumN_nonneg (f := fun x => if x = o then 0 else f x) n (fun x h3 h4 => by
    show 0 ≤ (if x = o then 0 else f x)
    split
    · omega
    · exact h x h3 h4)
  omega
def cntA : Option (Int × Int × Int) → Int
  | none => 0
  | some (_, h, s) => h + s
def ownTotal (acc : Int → Option (Int × Int × Int)) : Int := sumN (fun o => cntA (acc o)) 40
theorem ownTotal_upd (acc : Int → Option (Int × Int × Int)) (o : Int) (a : Option (Int × Int × Int)) (h1 : 1 ≤ o) (h2 : o ≤ 40) : ownTotal (fun x => if x = o then a else acc x) = ownTotal acc - cntA (acc o) + cntA a := by
  unfold ownTotal
  rw [← sumN_upd (fun o => cntA (acc o)) o (cntA a) 40 h1 h2]
  exact sumN_congr 40 (fun x _ _ => by by_cases h : x = o <;> simp [h])
def leasedOf (o : Int) : List Lea → Int
  | [] => 0
  | l :: ls => (if l.owner = o then l.amount else 0) + leasedOf o ls
theorem leasedOf_append (o : Int) : ∀ a b : List Lea, leasedOf o (a ++ b) = leasedOf o a + leasedOf o b
  | [], b => by simp [leasedOf]
  | l :: a, b => by simp only [List.cons_append, leasedOf]; rw [leasedOf_append o a b]; omega
theorem leasedOf_nonneg (o : Int) : ∀ a : List Lea, (∀ l ∈ a, 0 ≤ l.amount) → 0 ≤ leasedOf o a
  | [], _ => by simp [leasedOf]
  | l :: a, h => by
    have h1 := leasedOf_nonneg o a (fun x hx => h x (List.mem_cons_of_mem _ hx))
    have h2 := h l (List.mem_cons_self)
    unfold leasedOf; split <;> omega
theorem leasedOf_erase (o : Int) : ∀ (a : List Lea) (i : Nat) (l : Lea), a[i]? = some l → leasedOf o (a.eraseIdx i) = leasedOf o a - (if l.owner = o then l.amount else 0)
  | [], i, l, h => by simp at h
  | x :: a, 0, l, h => by
    simp at h; subst h; simp [leasedOf]; omega
  | x :: a, i + 1, l, h => by
    simp at h
    have := leasedOf_erase o a i l h
    simp only [List.eraseIdx_cons_succ, leasedOf]; omega
theorem leasedOf_untl (o u : Int) : ∀ (i : Nat) (a : List Lea), leasedOf o (setUntl u i a) = leasedOf o a
  | _, [] => by cases ‹Nat› <;> simp [setUntl, leasedOf]
  | 0, x :: a => by simp [setUntl, leasedOf]
  | i + 1, x :: a => by simp only [setUntl, leasedOf]; rw [leasedOf_untl o u i a]
theorem setUntl_len (u : Int) : ∀ (i : Nat) (a : List Lea), (setUntl u i a).length = a.length
  | _, [] => by cases ‹Nat› <;> simp [setUntl]
  | 0, x :: a => by simp [setUntl]
  | i + 1, x :: a => by simp [setUntl, setUntl_len u i a]
theorem setUntl_nos (u : Int) : ∀ (i : Nat) (a : List Lea), (setUntl u i a).map Lea.no = a.map Lea.no
  | _, [] => by cases ‹Nat› <;> simp [setUntl]
  | 0, x :: a => by simp [setUntl]
  | i + 1, x :: a => by simp [setUntl, setUntl_nos u i a]
theorem setUntl_all {P : Lea → Prop} (u : Int) (h1 : ∀ l, P l → P { l with untl := u }) : ∀ (i : Nat) (a : List Lea), (∀ l ∈ a, P l) → ∀ l ∈ setUntl u i a, P l
  | _, [], h, l, hl => by cases ‹Nat› <;> simp [setUntl] at hl
  | 0, x :: a, h, l, hl => by
    simp only [setUntl, List.mem_cons] at hl
    rcases hl with rfl | hl
    · exact h1 x (h x List.mem_cons_self)
    · exact h l (List.mem_cons_of_mem _ hl)
  | i + 1, x :: a, h, l, hl => by
    simp only [setUntl, List.mem_cons] at hl
    rcases hl with rfl | hl
    · exact h _ List.mem_cons_self
    · exact setUntl_all u h1 i a (fun y hy => h y (List.mem_cons_of_mem _ hy)) l hl

theorem findL_some {no : Int} : ∀ {a : List Lea} {i : Nat}, findL no a = some i → ∃ l, a[i]? = some l ∧ l.no = no
  | [], i, h => by simp [findL] at h
  | x :: a, i, h => by
    unfold findL at h
    split at h
    · next hx => simp at h; subst h; exact ⟨x, rfl, hx⟩
    · cases hf : findL no a with
      | none => rw [hf] at h; simp at h
      | some j =>
        rw [hf] at h; simp at h; subst h
        obtain ⟨l, h1, h2⟩ := findL_some hf
        exact ⟨l, by simpa using h1, h2⟩
theorem findL_none {no : Int} : ∀ {a : List Lea}, findL no a = none → ∀ l ∈ a, l.no ≠ no
  | [], _, l, hl => by simp at hl
  | x :: a, h, l, hl => by
    unfold findL at h
    split at h
    · simp at h
    · next hx =>
      cases hf : findL no a with
      | some j => rw [hf] at h; simp at h
      | none =>
        rcases List.mem_cons.1 hl with rfl | hl
        · exact hx
        · exact findL_none hf l hl

/-- What always holds of a book. -/
structure Good (st : BookSt) : Prop where
  bud : 0 ≤ st.budget ∧ st.budget ≤ 10000000
  time : 0 ≤ st.time ∧ st.time ≤ 1000000
  last : 0 ≤ st.last
  own : ∀ o l h s, st.acc o = some (l, h, s) → (1 ≤ o ∧ o ≤ 40) ∧ (0 ≤ l ∧ l ≤ 10000000) ∧ 0 ≤ h ∧ h + s ≤ l ∧ s = leasedOf o st.leases
  lost : ∀ o, st.acc o = none → leasedOf o st.leases = 0
  tot : st.total = ownTotal st.acc
  totb : st.total ≤ st.budget
  leaLen : st.leases.length ≤ 200
  lea : ∀ l ∈ st.leases, (1 ≤ l.no ∧ l.no ≤ st.last) ∧ (1 ≤ l.owner ∧ l.owner ≤ 40) ∧ (0 ≤ l.amount ∧ l.amount ≤ 10000000) ∧ (st.time < l.untl ∧ l.untl ≤ 1000000)
  nos : (st.leases.map Lea.no).Pairwise (· < ·)
  ents : st.entries.length ≤ 10000

theorem Good.s0 {st : BookSt} (g : Good st) {o l h s : Int} (ha : st.acc o = some (l, h, s)) : 0 ≤ s := by
  rw [(g.own o l h s ha).2.2.2.2]; exact leasedOf_nonneg o _ (fun x hx => (g.lea x hx).2.2.1.1)
theorem cntA_nonneg {st : BookSt} (g : Good st) (o : Int) : 0 ≤ cntA (st.acc o) := by
  cases ha : st.acc o with
  | none => simp [cntA]
  | some a =>
    obtain ⟨l, h, s⟩ := a
    have := g.s0 ha
    have := (g.own o l h s ha).2.2.1
    simp [cntA]; omega
theorem Good.tot0 {st : BookSt} (g : Good st) : 0 ≤ st.total := by rw [g.tot]; exact sumN_nonneg 40 (fun o _ _ => cntA_nonneg g o)
theorem Good.cnt_le {st : BookSt} (g : Good st) {o l h s : Int} (ha : st.acc o = some (l, h, s)) : h + s ≤ st.total := by
  rw [g.tot]
  have := sumN_ge (f := fun o => cntA (st.acc o)) 40 (fun o _ _ => cntA_nonneg g o) (g.own o l h s ha).1.1 (g.own o l h s ha).1.2
  simpa [ownTotal, ha, cntA] using this

theorem Good.new (b : Int) (h : 0 ≤ b ∧ b ≤ 10000000) : Good (newSt b) where
  bud := h
  time := by simp [newSt]
  last := by simp [newSt]
  own := fun o l h s ha => by simp [newSt] at ha
  lost := fun o _ => rfl
  tot := by simp [newSt, ownTotal, sumN, cntA]
  totb := h.1
  leaLen := by simp [newSt]
  lea := fun l hl => by simp [newSt] at hl
  nos := by simp [newSt]
  ents := by simp [newSt]

theorem Good.noted {st : BookSt} (g : Good st) (e : Ent) : Good (st.note e) where
  bud := g.bud
  time := g.time
  last := g.last
  own := g.own
  lost := g.lost
  tot := g.tot
  totb := g.totb
  leaLen := g.leaLen
  lea := g.lea
  nos := g.nos
  ents := trimE_len _ (by have := g.ents; simp; omega)

/-- An account is turned, the total with it. -/
theorem Good.turn {st : BookSt} (g : Good st) (o : Int) (a : Option (Int × Int × Int)) (n : Int) (h1 : 1 ≤ o ∧ o ≤ 40)
    (hn : cntA a = cntA (st.acc o) + n) (ha : ∀ l h s, a = some (l, h, s) → (0 ≤ l ∧ l ≤ 10000000) ∧ 0 ≤ h ∧ h + s ≤ l ∧ s = leasedOf o st.leases) (hz : a = none → leasedOf o st.leases = 0)
    (hb : st.total + n ≤ st.budget) : Good { st with total := st.total + n, acc := fun x => if x = o then a else st.acc x } where
  bud := g.bud
  time := g.time
  last := g.last
  own := fun x l h s hx => by
    by_cases e : x = o
    · subst e
      simp only [if_pos] at hx
      have := ha l h s hx
      exact ⟨h1, this⟩
    · simp only [if_neg e] at hx
      exact g.own x l h s hx
  lost := fun x hx => by
    by_cases e : x = o
    · subst e; simp only [if_pos] at hx; exact hz hx
    · simp only [if_neg e] at hx; exact g.lost x hx
  tot := by
    show st.total + n = ownTotal (fun x => if x = o then a else st.acc x)
    rw [ownTotal_upd _ _ _ h1.1 h1.2, g.tot]; omega
  totb := hb
  leaLen := g.leaLen
  lea := g.lea
  nos := g.nos
  ents := g.ents

theorem put_eq (st : BookSt) (o : Int) (a : Option (Int × Int × Int)) : st.put o a = { st with total := st.total + 0, acc := fun x => if x = o then a else st.acc x } := by simp [BookSt.put]

theorem openR_good {st : BookSt} (g : Good st) (o l : Int) : Good (openR st o l).2 := by
  unfold openR
  split
  · next hc =>
    cases ha : st.acc o with
    | some a => exact g
    | none =>
      simp only
      refine Good.noted ?_ _
      rw [put_eq]
      have hk := chkE_zero hc
      have h2 := hk.2 l (by simp)
      refine g.turn o _ 0 hk.1 (by simp [ha, cntA]) ?_ (by simp) (by have := g.totb; omega)
      intro l' h s he
      simp at he
      obtain ⟨rfl, rfl, rfl⟩ := he
      exact ⟨h2, by omega, by omega, (g.lost o ha).symm⟩
  · exact g

theorem shutR_good {st : BookSt} (g : Good st) (o : Int) : Good (shutR st o).2 := by
  unfold shutR
  split
  · next hc =>
    cases ha : st.acc o with
    | none => exact g
    | some a =>
      obtain ⟨l, h, s⟩ := a
      simp only
      split
      · exact g
      · next hz =>
        have h0 := g.s0 ha
        obtain ⟨h1, h2, h3, h4, h5⟩ := g.own o l h s ha
        refine Good.noted ?_ _
        rw [put_eq]
        refine g.turn o _ 0 h1 (by simp [ha, cntA]; omega) (by simp) (fun _ => by omega) (by have := g.totb; omega)
  · exact g

theorem Good.held {st : BookSt} (g : Good st) {o l h s n : Int} (ha : st.acc o = some (l, h, s)) (h0 : 0 ≤ h + n) (h1 : h + n + s ≤ l) (h2 : st.total + n ≤ st.budget) : Good (heldSt st o l h s n) := by
  obtain ⟨a1, a2, a3, a4, a5⟩ := g.own o l h s ha
  refine g.turn o _ n a1 (by simp [ha, cntA]; omega) ?_ (by simp) h2
  intro l' h' s' he
  simp at he
  obtain ⟨rfl, rfl, rfl⟩ := he
  exact ⟨a2, h0, h1, a5⟩

theorem takeR_good {st : BookSt} (g : Good st) (o n : Int) : Good (takeR st o n).2 := by
  unfold takeR
  split
  · next hc =>
    cases ha : st.acc o with
    | none => exact g
    | some a =>
      obtain ⟨l, h, s⟩ := a
      simp only
      unfold takeSt
      split
      · next hz =>
        have hn := (chkE_zero hc).2 n (by simp)
        obtain ⟨a1, a2, a3, a4, a5⟩ := g.own o l h s ha
        unfold takeE at hz
        split at hz
        · simp at hz
        · exact (g.held ha (by omega) (by omega) (by omega)).noted _
      · exact g
  · exact g
theorem giveR_good {st : BookSt} (g : Good st) (o n : Int) : Good (giveR st o n).2 := by
  unfold giveR
  split
  · next hc =>
    cases ha : st.acc o with
    | none => exact g
    | some a =>
      obtain ⟨l, h, s⟩ := a
      simp only
      unfold giveSt
      split
      · next hz =>
        have hn := (chkE_zero hc).2 n (by simp)
        obtain ⟨a1, a2, a3, a4, a5⟩ := g.own o l h s ha
        have := g.totb
        unfold giveE at hz
        split at hz
        · simp at hz
        · exact (g.held ha (n := -n) (by omega) (by omega) (by omega)).noted _
      · exact g
  · exact g
theorem changeR_good {st : BookSt} (g : Good st) (o f t : Int) : Good (changeR st o f t).2 := by
  unfold changeR
  split
  · next hc =>
    cases ha : st.acc o with
    | none => exact g
    | some a =>
      obtain ⟨l, h, s⟩ := a
      simp only
      unfold changeSt
      split
      · next hz =>
        obtain ⟨hz, _⟩ := hz
        have hf := (chkE_zero hc).2 f (by simp)
        have ht := (chkE_zero hc).2 t (by simp)
        obtain ⟨a1, a2, a3, a4, a5⟩ := g.own o l h s ha
        have := g.totb
        unfold changeE at hz
        split at hz
        · simp at hz
        · split at hz
          · simp at hz
          · exact (g.held ha (n := t - f) (by omega) (by omega) (by omega)).noted _
      · exact g
  · exact g
theorem limR_good {st : BookSt} (g : Good st) (o n : Int) : Good (limR st o n).2 := by
  unfold limR
  split
  · next hc =>
    cases ha : st.acc o with
    | none => exact g
    | some a =>
      obtain ⟨l, h, s⟩ := a
      simp only
      split
      · exact g
      · next hz =>
        have hn := (chkE_zero hc).2 n (by simp)
        obtain ⟨a1, a2, a3, a4, a5⟩ := g.own o l h s ha
        refine Good.noted ?_ _
        rw [put_eq]
        refine g.turn o _ 0 a1 (by simp [ha, cntA]) ?_ (by simp) (by have := g.totb; omega)
        intro l' h' s' he
        simp at he
        obtain ⟨rfl, rfl, rfl⟩ := he
        exact ⟨hn, a3, by omega, a5⟩
  · exact g
theorem budR_good {st : BookSt} (g : Good st) (b : Int) : Good (budR st b).2 := by
  unfold budR
  split
  · next hb =>
    split
    · exact g
    · next h => exact Good.noted (st := { st with budget := b }) ⟨hb, g.time, g.last, g.own, g.lost, g.tot, by show st.total ≤ b; omega, g.leaLen, g.lea, g.nos, g.ents⟩ _
  · exact g
theorem put_acc (st : BookSt) (o : Int) (a : Option (Int × Int × Int)) (x : Int) : (st.put o a).acc x = if x = o then a else st.acc x := rfl
theorem payR_good {st : BookSt} (g : Good st) (f t n : Int) : Good (payR st f t n).2 := by
  unfold payR
  split
  · next hc =>
    cases ha : st.acc f with
    | none => exact g
    | some a =>
      obtain ⟨l, h, s⟩ := a
      cases hb : st.acc t with
      | none => exact g
      | some b =>
        obtain ⟨l', h', s'⟩ := b
        simp only
        split
        · exact g
        · next h1 =>
          split
          · exact g
          · next h2 =>
            have hn := (chkE_zero hc.2).2 n (by simp)
            obtain ⟨a1, a2, a3, a4, a5⟩ := g.own f l h s ha
            obtain ⟨b1, b2, b3, b4, b5⟩ := g.own t l' h' s' hb
            have tb := g.totb
            refine Good.noted ?_ _
            unfold paid
            split
            · next e =>
              rw [put_eq]
              refine g.turn f _ 0 a1 (by simp [ha, cntA]) ?_ (by simp) (by omega)
              intro l2 h2 s2 he
              simp at he
              obtain ⟨rfl, rfl, rfl⟩ := he
              exact ⟨a2, a3, a4, a5⟩
            · next e =>
              have g1 : Good { st with total := st.total + -n, acc := fun x => if x = f then some (l, h - n, s) else st.acc x } := by
                refine g.turn f _ (-n) a1 (by simp [ha, cntA]; omega) ?_ (by simp) (by omega)
                intro l2 h2 s2 he
                simp at he
                obtain ⟨rfl, rfl, rfl⟩ := he
                exact ⟨a2, by omega, by omega, a5⟩
              have g2 := g1.turn t (some (l', h' + n, s')) n b1 (by simp [hb, cntA, if_neg (fun x : t = f => e x.symm)]; omega) (by
                intro l2 h2 s2 he
                simp at he
                obtain ⟨rfl, rfl, rfl⟩ := he
                have : ¬ (f ≠ t ∧ l' - (h' + s') < n) := h2
                exact ⟨b2, by omega, by have := fun x => this ⟨e, x⟩; omega, b5⟩) (by simp) (by show st.total + -n + n ≤ st.budget; omega)
              have : ({ st with total := st.total + -n + n, acc := fun x => if x = t then some (l', h' + n, s') else if x = f then some (l, h - n, s) else st.acc x } : BookSt) = (st.put f (some (l, h - n, s))).put t (some (l', h' + n, s')) := by
                simp only [BookSt.put]; congr 1; omega
              rw [← this]
              exact g2
  · exact g
theorem untilE_zero {st : BookSt} {u : Int} (h : untilE st u = 0) : (0 ≤ u ∧ u ≤ 1000000) ∧ st.time < u := by
  unfold untilE at h
  split at h
  · next h1 =>
    split at h
    · simp at h
    · exact ⟨h1, by omega⟩
  · simp at h
theorem leaseE_zero {st : BookSt} {o n u : Int} (hz : leaseE st o n u = 0) : ∃ l h s, st.acc o = some (l, h, s) ∧ chkE o [n] = 0 ∧ untilE st u = 0 ∧ st.leases.length ≠ 200 ∧ ¬ min (l - (h + s)) (st.budget - st.total) < n := by
  unfold leaseE at hz
  split at hz
  · next hc =>
    cases ha : st.acc o with
    | none => rw [ha] at hz; simp at hz
    | some a =>
      obtain ⟨l, h, s⟩ := a
      rw [ha] at hz
      simp only at hz
      split at hz
      · next hu =>
        split at hz
        · simp at hz
        · next h2 =>
          split at hz
          · simp at hz
          · next h3 => exact ⟨l, h, s, rfl, hc, hu, h2, h3⟩
      · next hu => exact absurd hz hu
  · simp at hz
theorem leaseR_good {st : BookSt} (g : Good st) (o n u : Int) : Good (leaseR st o n u).2 := by
  unfold leaseR
  split
  · next hz =>
    obtain ⟨l, h, s, ha, hc, hu, h200, hm⟩ := leaseE_zero hz
    rw [ha]
    simp only
    unfold leaseSt
    refine Good.noted ?_ _
    have hn := (chkE_zero hc).2 n (by simp)
    have hu := untilE_zero hu
    have hl0 := g.last
    obtain ⟨a1, a2, a3, a4, a5⟩ := g.own o l h s ha
    refine ⟨g.bud, g.time, by show 0 ≤ st.last + 1; omega, ?_, ?_, ?_, ?_, ?_, ?_, ?_, g.ents⟩
    · intro x l' h' s' hx
      show _ ∧ _ ∧ _ ∧ _ ∧ s' = leasedOf x (st.leases ++ ([⟨st.last + 1, o, n, u⟩] : List Lea))
      rw [leasedOf_append]
      by_cases e : x = o
      · subst e
        simp at hx
        obtain ⟨rfl, rfl, rfl⟩ := hx
        refine ⟨a1, a2, a3, by omega, ?_⟩
        simp [leasedOf]; omega
      · simp only [if_neg e] at hx
        have := g.own x l' h' s' hx
        simp only [leasedOf, if_neg (fun y : o = x => e y.symm)]
        simpa using this
    · intro x hx
      show leasedOf x (st.leases ++ ([⟨st.last + 1, o, n, u⟩] : List Lea)) = 0
      rw [leasedOf_append]
      by_cases e : x = o
      · subst e; simp at hx
      · simp only [if_neg e] at hx
        simp only [leasedOf, if_neg (fun y : o = x => e y.symm)]
        simpa using g.lost x hx
    · show st.total + n = ownTotal (fun x => if x = o then some (l, h, s + n) else st.acc x)
      rw [ownTotal_upd _ _ _ a1.1 a1.2, g.tot, ha]; simp [cntA]; omega
    · show st.total + n ≤ st.budget; omega
    · show (st.leases ++ ([⟨st.last + 1, o, n, u⟩] : List Lea)).length ≤ 200
      have := g.leaLen; simp; omega
    · intro y hy
      have hy' : y ∈ st.leases ++ ([⟨st.last + 1, o, n, u⟩] : List Lea) := hy
      rcases List.mem_append.1 hy' with h1 | h1
      · have := g.lea y h1
        show (1 ≤ y.no ∧ y.no ≤ st.last + 1) ∧ _
        exact ⟨⟨this.1.1, by omega⟩, this.2⟩
      · simp at h1; subst h1
        show (1 ≤ st.last + 1 ∧ st.last + 1 ≤ st.last + 1) ∧ _
        exact ⟨by omega, a1, hn, hu.2, hu.1.2⟩
    · show ((st.leases ++ ([⟨st.last + 1, o, n, u⟩] : List Lea)).map Lea.no).Pairwise (· < ·)
      rw [List.map_append]
      refine List.pairwise_append.2 ⟨g.nos, by simp, ?_⟩
      intro a ha' b hb'
      simp at ha' hb'
      obtain ⟨y, hy, rfl⟩ := ha'
      subst hb'
      have := (g.lea y hy).1.2
      omega
  · exact g
theorem renewR_good {st : BookSt} (g : Good st) (no u : Int) : Good (renewR st no u).2 := by
  unfold renewR
  split
  · exact g
  · next i hi =>
    split
    · next hu =>
      have hu := untilE_zero hu
      refine Good.noted ?_ _
      refine ⟨g.bud, g.time, g.last, ?_, ?_, g.tot, g.totb, ?_, ?_, ?_, g.ents⟩
      · intro o l h s ha
        show _ ∧ _ ∧ _ ∧ _ ∧ s = leasedOf o (setUntl u i st.leases)
        rw [leasedOf_untl]; exact g.own o l h s ha
      · intro o ha
        show leasedOf o (setUntl u i st.leases) = 0
        rw [leasedOf_untl]; exact g.lost o ha
      · show (setUntl u i st.leases).length ≤ 200
        rw [setUntl_len]; exact g.leaLen
      · exact setUntl_all (P := fun l => (1 ≤ l.no ∧ l.no ≤ st.last) ∧ (1 ≤ l.owner ∧ l.owner ≤ 40) ∧ (0 ≤ l.amount ∧ l.amount ≤ 10000000) ∧ (st.time < l.untl ∧ l.untl ≤ 1000000)) u (fun l hl => ⟨hl.1, hl.2.1, hl.2.2.1, hu.2, hu.1.2⟩) i st.leases g.lea
      · show ((setUntl u i st.leases).map Lea.no).Pairwise (· < ·)
        rw [setUntl_nos]; exact g.nos
    · exact g
/-- What holds while leases end: as Good, but that leases may be over. -/
structure GoodE (st : BookSt) : Prop where
  bud : 0 ≤ st.budget ∧ st.budget ≤ 10000000
  time : 0 ≤ st.time ∧ st.time ≤ 1000000
  last : 0 ≤ st.last
  own : ∀ o l h s, st.acc o = some (l, h, s) → (1 ≤ o ∧ o ≤ 40) ∧ (0 ≤ l ∧ l ≤ 10000000) ∧ 0 ≤ h ∧ h + s ≤ l ∧ s = leasedOf o st.leases
  lost : ∀ o, st.acc o = none → leasedOf o st.leases = 0
  tot : st.total = ownTotal st.acc
  totb : st.total ≤ st.budget
  leaLen : st.leases.length ≤ 200
  lea : ∀ l ∈ st.leases, (1 ≤ l.no ∧ l.no ≤ st.last) ∧ (1 ≤ l.owner ∧ l.owner ≤ 40) ∧ (0 ≤ l.amount ∧ l.amount ≤ 10000000) ∧ l.untl ≤ 1000000
  nos : (st.leases.map Lea.no).Pairwise (· < ·)
  ents : st.entries.length ≤ 10000
theorem Good.e {st : BookSt} (g : Good st) : GoodE st := ⟨g.bud, g.time, g.last, g.own, g.lost, g.tot, g.totb, g.leaLen, fun l hl => ⟨(g.lea l hl).1, (g.lea l hl).2.1, (g.lea l hl).2.2.1, (g.lea l hl).2.2.2.2⟩, g.nos, g.ents⟩
theorem GoodE.good {st : BookSt} (g : GoodE st) (h : ∀ l ∈ st.leases, st.time < l.untl) : Good st :=
  ⟨g.bud, g.time, g.last, g.own, g.lost, g.tot, g.totb, g.leaLen, fun l hl => ⟨(g.lea l hl).1, (g.lea l hl).2.1, (g.lea l hl).2.2.1, h l hl, (g.lea l hl).2.2.2⟩, g.nos, g.ents⟩
theorem GoodE.noted {st : BookSt} (g : GoodE st) (e : Ent) : GoodE (st.note e) :=
  ⟨g.bud, g.time, g.last, g.own, g.lost, g.tot, g.totb, g.leaLen, g.lea, g.nos, trimE_len _ (by have := g.ents; simp; omega)⟩
theorem GoodE.s0 {st : BookSt} (g : GoodE st) {o l h s : Int} (ha : st.acc o = some (l, h, s)) : 0 ≤ s := by
  rw [(g.own o l h s ha).2.2.2.2]; exact leasedOf_nonneg o _ (fun x hx => (g.lea x hx).2.2.1.1)
theorem GoodE.cnt0 {st : BookSt} (g : GoodE st) (o : Int) : 0 ≤ cntA (st.acc o) := by
  cases ha : st.acc o with
  | none => simp [cntA]
  | some a =>
    obtain ⟨l, h, s⟩ := a
    have := g.s0 ha
    have := (g.own o l h s ha).2.2.1
    simp [cntA]; omega
theorem GoodE.tot0 {st : BookSt} (g : GoodE st) : 0 ≤ st.total := by rw [g.tot]; exact sumN_nonneg 40 (fun o _ _ => g.cnt0 o)
theorem leasedOf_ge {o : Int} : ∀ {a : List Lea} {l : Lea}, (∀ x ∈ a, 0 ≤ x.amount) → l ∈ a → l.owner = o → l.amount ≤ leasedOf o a
  | [], l, h, hl, ho => by simp at hl
  | x :: a, l, h, hl, ho => by
    have h1 := leasedOf_nonneg o a (fun y hy => h y (List.mem_cons_of_mem _ hy))
    have h2 := h x List.mem_cons_self
    rcases List.mem_cons.1 hl with rfl | hl
    · simp [leasedOf, ho]; omega
    · have := leasedOf_ge (fun y hy => h y (List.mem_cons_of_mem _ hy)) hl ho
      simp only [leasedOf]; split <;> omega
theorem endR_goodE {st : BookSt} (g : GoodE st) (no : Int) : GoodE (endR st no).2 := by
  unfold endR
  split
  · exact g
  · next i hi =>
    split
    · exact g
    · next l hl =>
      have hm : l ∈ st.leases := List.mem_of_getElem? hl
      have sub : ∀ y ∈ st.leases.eraseIdx i, y ∈ st.leases := fun y hy => List.mem_of_mem_eraseIdx hy
      obtain ⟨l1, l2, l3, l4⟩ := g.lea l hm
      have hge := leasedOf_ge (o := l.owner) (fun x hx => (g.lea x hx).2.2.1.1) hm rfl
      refine GoodE.noted ?_ _
      refine ⟨g.bud, g.time, g.last, ?_, ?_, ?_, ?_, ?_, ?_, ?_, g.ents⟩
      · intro o l' h s ha
        show _ ∧ _ ∧ _ ∧ _ ∧ s = leasedOf o (st.leases.eraseIdx i)
        rw [leasedOf_erase o _ _ _ hl]
        have ha' : endAcc st l o = some (l', h, s) := ha
        unfold endAcc at ha'
        by_cases e : o = l.owner
        · rw [if_pos e] at ha'
          cases hb : st.acc o with
          | none => rw [hb] at ha'; simp at ha'
          | some b =>
            obtain ⟨x, y, z⟩ := b
            rw [hb] at ha'
            simp at ha'
            obtain ⟨rfl, rfl, rfl⟩ := ha'
            obtain ⟨b1, b2, b3, b4, b5⟩ := g.own o x y z hb
            rw [if_pos e.symm]
            exact ⟨b1, b2, b3, by omega, by omega⟩
        · rw [if_neg e] at ha'
          obtain ⟨b1, b2, b3, b4, b5⟩ := g.own o _ _ _ ha'
          rw [if_neg (fun x => e x.symm)]
          exact ⟨b1, b2, b3, b4, by omega⟩
      · intro o ha
        show leasedOf o (st.leases.eraseIdx i) = 0
        rw [leasedOf_erase o _ _ _ hl]
        have ha' : endAcc st l o = none := ha
        unfold endAcc at ha'
        by_cases e : o = l.owner
        · rw [if_pos e] at ha'
          cases hb : st.acc o with
          | some b => rw [hb] at ha'; simp at ha'
          | none =>
            have := g.lost o hb
            rw [if_pos e.symm]; rw [← e] at hge; omega
        · rw [if_neg e] at ha'
          rw [if_neg (fun x => e x.symm), g.lost o ha']; omega
      · show st.total - l.amount = ownTotal (endAcc st l)
        have : endAcc st l = fun x => if x = l.owner then (st.acc l.owner).map (fun a => (a.1, a.2.1, a.2.2 - l.amount)) else st.acc x := by
          funext x; unfold endAcc; split
          · next e => rw [e]
          · rfl
        rw [this, ownTotal_upd _ _ _ l2.1 l2.2, g.tot]
        cases hb : st.acc l.owner with
        | none => have := g.lost _ hb; simp [cntA]; omega
        | some b => obtain ⟨x, y, z⟩ := b; simp [cntA]; omega
      · show st.total - l.amount ≤ st.budget; have := g.totb; omega
      · show (st.leases.eraseIdx i).length ≤ 200
        have := g.leaLen; have := List.length_eraseIdx_le st.leases i; omega
      · exact fun y hy => g.lea y (sub y hy)
      · show ((st.leases.eraseIdx i).map Lea.no).Pairwise (· < ·)
        exact g.nos.sublist ((List.eraseIdx_sublist st.leases i).map _)
theorem endR_time (st : BookSt) (no : Int) : (endR st no).2.time = st.time := by
  unfold endR; split
  · rfl
  · split <;> rfl
theorem endR_good {st : BookSt} (g : Good st) (no : Int) : Good (endR st no).2 := by
  refine (endR_goodE g.e no).good ?_
  rw [endR_time]
  intro l hl
  have : l ∈ st.leases := by
    unfold endR at hl
    split at hl
    · exact hl
    · split at hl
      · exact hl
      · exact List.mem_of_mem_eraseIdx hl
  exact (g.lea l this).2.2.2.1
theorem GoodE.endAll {l : List Lea} : ∀ {st : BookSt}, GoodE st → GoodE (endAll st l) := by
  induction l with
  | nil => exact fun g => g
  | cons x l ih => exact fun g => ih (endR_goodE g x.no)
theorem endAll_time : ∀ (l : List Lea) (st : BookSt), (endAll st l).time = st.time
  | [], st => rfl
  | x :: l, st => by unfold endAll; rw [List.foldl_cons]; exact (endAll_time l _).trans (endR_time st x.no)
/-- Leases whose numbers stand in a list are gone behind its ends. -/
theorem endR_gone {st : BookSt} (hn : (st.leases.map Lea.no).Pairwise (· < ·)) (no : Int) : ∀ y ∈ (endR st no).2.leases, y ∈ st.leases ∧ y.no ≠ no := by
  intro y hy
  unfold endR at hy
  split at hy
  · next hf => exact ⟨hy, findL_none hf y hy⟩
  · next i hi =>
    obtain ⟨l, h1, h2⟩ := findL_some hi
    rw [h1] at hy
    simp only at hy
    have hy' : y ∈ st.leases.eraseIdx i := hy
    refine ⟨List.mem_of_mem_eraseIdx hy', ?_⟩
    obtain ⟨j, hj1, hj2⟩ := List.mem_eraseIdx_iff_getElem.1 hy'
    obtain ⟨hi', hl'⟩ := List.getElem?_eq_some_iff.1 h1
    intro e
    obtain ⟨hj3, hj4⟩ := hj2
    have hp := List.pairwise_iff_getElem.1 hn
    rcases Nat.lt_trichotomy i j with hlt | heq | hlt
    · have := hp i j (by simpa using hi') (by simpa using hj1) hlt
      simp [hl', hj4] at this; omega
    · exact hj3 heq.symm
    · have := hp j i (by simpa using hj1) (by simpa using hi') hlt
      simp [hl', hj4] at this; omega
theorem endAll_gone : ∀ (l : List Lea) {st : BookSt}, GoodE st → ∀ y ∈ (endAll st l).leases, y ∈ st.leases ∧ ∀ x ∈ l, y.no ≠ x.no
  | [], st, g, y, hy => ⟨hy, by simp⟩
  | x :: l, st, g, y, hy => by
    have := endAll_gone l (endR_goodE g x.no) y hy
    have h2 := endR_gone g.nos x.no y this.1
    refine ⟨h2.1, ?_⟩
    intro z hz
    rcases List.mem_cons.1 hz with rfl | hz
    · exact h2.2
    · exact this.2 z hz
theorem passE_zero {st : BookSt} {now : Int} (h : passE st now = 0) : (0 ≤ now ∧ now ≤ 1000000) ∧ st.time ≤ now := by
  unfold passE at h
  split at h
  · next h1 =>
    split at h
    · simp at h
    · exact ⟨h1, by omega⟩
  · simp at h
theorem passE1 {st : BookSt} {now : Int} (g : Good st) (h : passE st now = 0) : GoodE (({ st with time := now } : BookSt).note ⟨11, 0, 0, 0, 0, now⟩) := by
  obtain ⟨h1, h2⟩ := passE_zero h
  exact GoodE.noted (st := { st with time := now }) ⟨g.bud, h1, g.last, g.own, g.lost, g.tot, g.totb, g.leaLen, g.e.lea, g.nos, g.ents⟩ _
theorem passR_good {st : BookSt} (g : Good st) (now : Int) : Good (passR st now).2 := by
  unfold passR
  split
  · next hz =>
    have g1 := passE1 g hz
    refine (g1.endAll).good ?_
    intro l hl
    rw [endAll_time]
    obtain ⟨h1, h2⟩ := endAll_gone _ g1 l hl
    show now < l.untl
    rcases Int.lt_or_le now l.untl with h | h
    · exact h
    · refine absurd rfl (h2 l ?_)
      unfold overL
      rw [List.mem_mergeSort]
      exact List.mem_filter.2 ⟨h1, by simpa using h⟩
  · exact g
theorem againR_good {st : BookSt} (g : Good st) (e : Ent) : Good (againR st e).2 := by
  unfold againR
  repeat' split
  · exact openR_good g _ _
  · exact shutR_good g _
  · exact takeR_good g _ _
  · exact giveR_good g _ _
  · exact payR_good g _ _ _
  · exact limR_good g _ _
  · exact budR_good g _
  · exact leaseR_good g _ _ _
  · exact renewR_good g _ _
  · exact endR_good g _
  · exact passR_good g _
  · exact g

end Go.Proofs.YtfnmjlnpfoclbaaGreat
