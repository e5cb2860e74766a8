/-
  The law of a cache's slots, step by step. Plain Lean. No program.
-/
import Derived.Test.YtiaedonhbafpjaaTopSlabPbo
namespace Go.Proofs.Ytiaedonhbafpjaa
open Go.RowKit
set_option linter.unusedVariables false

/-- The shape of a cache: B bounds generations and slabs. -/
structure Sh (S : CaSt) (B : Nat) : Prop where
  nos : (S.sl.map Sl.no).Pairwise (· < ·)
  nb : ∀ x ∈ S.sl, x.no ≤ S.last
  cl : ∀ x ∈ S.sl, x.cl.length = S.slots
  ol : ∀ x ∈ S.sl, x.cs.length = S.room x.cls
  gen : ∀ x ∈ S.sl, ∀ y ∈ x.cl, 1 ≤ y.gen ∧ y.gen ≤ B
  last : S.last ≤ B
theorem Sh.mono {S : CaSt} {B B' : Nat} (h : Sh S B) (hB : B ≤ B') : Sh S B' := ⟨h.nos, h.nb, h.cl, h.ol, fun x hx y hy => ⟨(h.gen x hx y hy).1, Nat.le_trans (h.gen x hx y hy).2 hB⟩, Nat.le_trans h.last hB⟩
theorem Sh.at {S : CaSt} {B : Nat} (h : Sh S B) {x : Sl} (hx : x ∈ S.sl) : slabOf S.sl (x.no : Int) = some x := slabOf_at h.nos hx
theorem Sh.win {S : CaSt} {B : Nat} (h : Sh S B) {x : Sl} (hx : x ∈ S.sl) {an : Nat} (ha : an < x.cl.length) : an * clsN S.classes x.cls + clsN S.classes x.cls ≤ x.cs.length := by
  rw [h.ol x hx]
  show _ ≤ S.slots * clsN S.classes x.cls
  rw [← Nat.succ_mul]
  exact Nat.mul_le_mul_right _ (by rw [← h.cl x hx]; exact ha)
theorem Sh.put {S : CaSt} {B : Nat} (h : Sh S B) {x z : Sl} (hx : x ∈ S.sl) (hn : z.no = x.no) (hc : z.cls = x.cls) (hl : z.cl.length = x.cl.length) (ho : z.cs.length = x.cs.length) (hg : ∀ y ∈ z.cl, 1 ≤ y.gen ∧ y.gen ≤ B) : Sh (S.put z) B := by
  have mem : ∀ y ∈ (S.put z).sl, y = z ∨ y ∈ S.sl := fun y hy => by
    rcases put_mem hy with h | h
    · exact Or.inl h
    · exact Or.inr h.1
  refine ⟨?_, fun y hy => ?_, fun y hy => ?_, fun y hy => ?_, fun y hy => ?_, h.last⟩
  · have e := put_maps Sl.no h.nos hx hn hn
    show (List.map Sl.no (List.map _ _)).Pairwise _
    rw [e]; exact h.nos
  · rcases mem y hy with rfl | hy
    · rw [hn]; exact h.nb x hx
    · exact h.nb y hy
  · rcases mem y hy with rfl | hy
    · rw [hl]; exact h.cl x hx
    · exact h.cl y hy
  · rcases mem y hy with rfl | hy
    · rw [ho, hc]; exact h.ol x hx
    · exact h.ol y hy
  · rcases mem y hy with rfl | hy
    · exact hg
    · exact h.gen y hy
theorem Sh.add {S : CaSt} {B : Nat} (h : Sh S B) (cls p g q : Nat) : Sh (S.add cls p g q) (B + 1) := by
  have mem : ∀ y ∈ (S.add cls p g q).sl, y ∈ S.sl ∨ y = newSl S cls (S.last + 1) p g q := fun y hy => by
    rcases List.mem_append.1 hy with hy | hy
    · exact Or.inl hy
    · exact Or.inr (by simpa using hy)
  refine ⟨?_, fun y hy => ?_, fun y hy => ?_, fun y hy => ?_, fun y hy u hu => ?_, by show S.last + 1 ≤ B + 1; have := h.last; omega⟩
  · show ((S.sl ++ [_]).map Sl.no).Pairwise _
    rw [List.map_append, List.pairwise_append]
    refine ⟨h.nos, by simp, fun a ha b hb => ?_⟩
    obtain ⟨y, hy, rfl⟩ := List.mem_map.1 ha
    have := h.nb y hy
    simp [newSl] at hb
    omega
  · rcases mem y hy with hy | rfl
    · exact Nat.le_succ_of_le (h.nb y hy)
    · exact Nat.le_refl _
  · rcases mem y hy with hy | rfl
    · exact h.cl y hy
    · show (List.replicate S.slots _).length = S.slots
      simp
  · rcases mem y hy with hy | rfl
    · exact h.ol y hy
    · show (zeros (S.room cls)).length = S.room cls
      simp [zeros]
  · rcases mem y hy with hy | rfl
    · have := h.gen y hy u hu
      omega
    · have : u = ⟨1, 0, false⟩ := List.eq_of_mem_replicate hu
      subst this
      exact ⟨Nat.le_refl _, by show 1 ≤ B + 1; omega⟩
theorem Sh.trim {S : CaSt} {B : Nat} (h : Sh S B) : Sh S.trim B := by
  have hs := busy_sub S.sl
  exact ⟨h.nos.sublist (hs.map Sl.no), fun x hx => h.nb x (hs.subset hx), fun x hx => h.cl x (hs.subset hx), fun x hx => h.ol x (hs.subset hx), fun x hx => h.gen x (hs.subset hx), h.last⟩

def keyS (p : Sq × List Int) : Int × Int := (p.1.no, p.1.at')
structure Law (S : CaSt) (ps : List (Sq × List Int)) (gs : List Sq) (B : Nat) : Prop where
  sh : Sh S B
  hold : ∀ p ∈ ps, Hold S p.1 p.2
  dist : (ps.map keyS).Nodup
  dead : ∀ s ∈ gs, Dead S s
  cnt : usedAll S.sl = ps.length
  opn : S.closed = false
theorem Law.perm {S : CaSt} {ps ps' : List (Sq × List Int)} {gs : List Sq} {B : Nat} (h : Law S ps gs B) (hp : ps.Perm ps') : Law S ps' gs B :=
  ⟨h.sh, fun p hm => h.hold p (hp.mem_iff.2 hm), (hp.map keyS).nodup_iff.1 h.dist, h.dead, h.cnt.trans hp.length_eq, h.opn⟩
theorem Law.mono {S : CaSt} {ps : List (Sq × List Int)} {gs : List Sq} {B B' : Nat} (h : Law S ps gs B) (hB : B ≤ B') : Law S ps gs B' := ⟨h.sh.mono hB, h.hold, h.dist, h.dead, h.cnt, h.opn⟩

/-- Another slot: not this one. -/
theorem Law.other {S : CaSt} {p : Sq × List Int} {qs : List (Sq × List Int)} {gs : List Sq} {B : Nat} (h : Law S (p :: qs) gs B) {q : Sq × List Int} (hq : q ∈ qs) : ¬ (q.1.no = p.1.no ∧ q.1.at' = p.1.at') := fun e => by
  have := h.dist
  rw [List.map_cons, List.nodup_cons] at this
  exact this.1 (List.mem_map.2 ⟨q, hq, by unfold keyS; rw [e.1, e.2]⟩)

/-- The slot's own octets and length turn. -/
theorem Law.own {S : CaSt} {p : Sq × List Int} {qs : List (Sq × List Int)} {gs : List Sq} {B : Nat} (h : Law S (p :: qs) gs B) {x : Sl} {an : Nat} {y : Cel} (u : InUse S x an y p.1.cls p.1.no p.1.at' p.1.gen) (k : Nat) (hk : k ≤ clsN S.classes x.cls) (cs : List Int) (hl : cs.length = x.cs.length)
    (hout : ∀ j, j < an * clsN S.classes x.cls ∨ an * clsN S.classes x.cls + clsN S.classes x.cls ≤ j → cs[j]? = x.cs[j]?) (o : List Int) (ho : o.length = k) (hoct : (cs.drop (an * clsN S.classes x.cls)).take k = o) :
    Law (S.put { x with cs := cs, cl := x.cl.set an ⟨y.gen, k, true⟩ }) ((p.1, o) :: qs) gs B := by
  obtain ⟨hx, hno⟩ := slabOf_some u.no
  have hk2 : an < x.cl.length := (List.getElem?_eq_some_iff.1 u.cel).1
  have g0 := h.sh.gen x hx y (List.mem_of_getElem? u.cel)
  have hp : 1 ≤ p.1.gen := by have := u.gen; omega
  have hat := h.sh.at hx
  refine ⟨h.sh.put hx rfl rfl (by simp) hl (fun z hz => ?_), fun q hq => ?_, h.dist, fun s hs => ?_, ?_, h.opn⟩
  · rcases List.mem_or_eq_of_mem_set hz with hz | rfl
    · exact h.sh.gen x hx z hz
    · exact g0
  · rcases List.mem_cons.1 hq with rfl | hq
    · refine ⟨{ x with cs := cs, cl := x.cl.set an ⟨y.gen, k, true⟩ }, an, ⟨y.gen, k, true⟩, ⟨u.cls, slabOf_put_eq u.no rfl, u.at', by simp [hk2], u.gen, rfl⟩, hp, ho.symm, hk, hoct⟩
    · refine (h.hold q (List.mem_cons_of_mem _ hq)).put (x := x) rfl rfl hat (fun e an2 ha => ?_)
      have hne : an2 ≠ an := fun e2 => h.other hq ⟨by rw [e, hno], by rw [ha, e2, u.at']⟩
      refine ⟨by simp [List.getElem?_set_ne (Ne.symm hne)], fun n hn => oct_eq rfl hn (fun j h1 h2 => hout j (slots_apart hne h1 h2))⟩
  · refine (h.dead s hs).put (x := x) rfl hat (fun an2 y2 hy2 => ?_)
    by_cases e : an2 = an
    · subst e
      have := u.cel
      rw [hy2] at this
      cases this
      exact ⟨⟨y.gen, k, true⟩, by simp [hk2], Nat.le_refl _⟩
    · exact ⟨y2, by simp [List.getElem?_set_ne (Ne.symm e), hy2], Nat.le_refl _⟩
  · have h1 := usedAll_put (z := { x with cs := cs, cl := x.cl.set an ⟨y.gen, k, true⟩ }) h.sh.nos hx rfl
    have h2 := usedN_set (⟨y.gen, k, true⟩ : Cel) u.cel
    rw [u.used] at h2
    simp only [if_true] at h2
    have h3 := h.cnt
    simp only at h1
    show _ = qs.length + 1
    have h4 : (p :: qs).length = qs.length + 1 := rfl
    omega

/-- The slot is given back. -/
theorem Law.free {S : CaSt} {p : Sq × List Int} {qs : List (Sq × List Int)} {gs : List Sq} {B : Nat} (h : Law S (p :: qs) gs B) {x : Sl} {an : Nat} {y : Cel} (u : InUse S x an y p.1.cls p.1.no p.1.at' p.1.gen) :
    Law (S.put { x with cl := x.cl.set an ⟨y.gen + 1, 0, false⟩ }) qs (gs ++ [p.1]) (B + 1) := by
  obtain ⟨hx, hno⟩ := slabOf_some u.no
  have hk2 : an < x.cl.length := (List.getElem?_eq_some_iff.1 u.cel).1
  have g0 := h.sh.gen x hx y (List.mem_of_getElem? u.cel)
  have hat := h.sh.at hx
  refine ⟨(h.sh.mono (Nat.le_succ B)).put hx rfl rfl (by simp) rfl (fun z hz => ?_), fun q hq => ?_, ?_, fun s hs => ?_, ?_, h.opn⟩
  · rcases List.mem_or_eq_of_mem_set hz with hz | rfl
    · have := h.sh.gen x hx z hz
      omega
    · show 1 ≤ y.gen + 1 ∧ y.gen + 1 ≤ B + 1
      omega
  · refine (h.hold q (List.mem_cons_of_mem _ hq)).put (x := x) rfl rfl hat (fun e an2 ha => ?_)
    have hne : an2 ≠ an := fun e2 => h.other hq ⟨by rw [e, hno], by rw [ha, e2, u.at']⟩
    exact ⟨by simp [List.getElem?_set_ne (Ne.symm hne)], fun n hn => rfl⟩
  · have := h.dist
    rw [List.map_cons, List.nodup_cons] at this
    exact this.2
  · have keep : ∀ (an2 : Nat) y2, x.cl[an2]? = some y2 → ∃ y' : Cel, (x.cl.set an ⟨y.gen + 1, 0, false⟩)[an2]? = some y' ∧ y2.gen ≤ y'.gen := fun an2 y2 hy2 => by
      by_cases e : an2 = an
      · subst e
        have := u.cel
        rw [hy2] at this
        cases this
        exact ⟨⟨y.gen + 1, 0, false⟩, by simp [hk2], Nat.le_succ _⟩
      · exact ⟨y2, by simp [List.getElem?_set_ne (Ne.symm e), hy2], Nat.le_refl _⟩
    rcases List.mem_append.1 hs with hs | hs
    · exact (h.dead s hs).put (x := x) rfl hat keep
    · have : s = p.1 := by simpa using hs
      subst this
      refine ⟨by have := h.sh.nb x hx; show p.1.no ≤ (S.last : Int); omega, fun x1 hx1 => ?_⟩
      rw [slabOf_put_eq (z := { x with cl := x.cl.set an ⟨y.gen + 1, 0, false⟩ }) u.no rfl] at hx1
      cases hx1
      exact ⟨an, ⟨y.gen + 1, 0, false⟩, u.at', by simp [hk2], by have := u.gen; show p.1.gen < ((y.gen + 1 : Nat) : Int); omega⟩
  · have h1 := usedAll_put (z := { x with cl := x.cl.set an ⟨y.gen + 1, 0, false⟩ }) h.sh.nos hx rfl
    have h2 := usedN_set (⟨y.gen + 1, 0, false⟩ : Cel) u.cel
    rw [u.used] at h2
    simp only [if_true, Bool.false_eq_true, if_false] at h2
    have h3 := h.cnt
    have h4 : (p :: qs).length = qs.length + 1 := rfl
    simp only at h1
    omega

theorem Law.add {S : CaSt} {ps : List (Sq × List Int)} {gs : List Sq} {B : Nat} (h : Law S ps gs B) (cls p g q : Nat) : Law (S.add cls p g q) ps gs (B + 1) :=
  ⟨h.sh.add cls p g q, fun r hr => (h.hold r hr).add cls p g q, h.dist, fun s hs => (h.dead s hs).add cls p g q, (usedAll_add S cls p g q).trans h.cnt, h.opn⟩
theorem Law.alIn {S S1 : CaSt} {ps : List (Sq × List Int)} {gs : List Sq} {B cls n n1 : Nat} (h : Law S ps gs B) (hin : AlIn S cls n S1 n1) : Law S1 ps gs (B + 1) := by
  rcases hin with ⟨rfl, _⟩ | ⟨_, _, p, g, q, rfl⟩
  · exact h.mono (Nat.le_succ B)
  · exact h.add cls p g q
theorem fill_zeros {cs : List Int} {A sz k : Nat} (h : A + sz ≤ cs.length) (hk : k ≤ sz) : ((fill 0 cs A sz).drop A).take k = zeros k := by
  refine List.ext_getElem? (fun j => ?_)
  by_cases hj : j < k
  · rw [List.getElem?_take_of_lt hj, List.getElem?_drop, fill_at 0 sz cs A _ h, if_pos (by omega)]
    simp [zeros, hj]
  · rw [List.getElem?_eq_none (by rw [List.length_take]; omega), List.getElem?_eq_none (by simp [zeros]; omega)]
/-- A slot is given out. -/
theorem Law.take {S : CaSt} {ps : List (Sq × List Int)} {gs : List Sq} {B cls k : Nat} (h : Law S ps gs B) {x : Sl} {i : Nat} {y : Cel} (hfo : freeOf S.sl cls = some (x, i, y)) (hk : k ≤ clsN S.classes cls) :
    Law (AlS S x i y k) ((⟨cls, x.no, i, y.gen⟩, zeros k) :: ps) gs B ∧ InUse (AlS S x i y k) { x with cs := fill 0 x.cs (i * clsN S.classes x.cls) (clsN S.classes x.cls), cl := x.cl.set i ⟨y.gen, k, true⟩ } i ⟨y.gen, k, true⟩ cls x.no i y.gen := by
  obtain ⟨hx, hcls, hfi⟩ := freeOf_some hfo
  obtain ⟨hy, hyu⟩ := freeIdx_at hfi
  subst hcls
  have hk2 : i < x.cl.length := (List.getElem?_eq_some_iff.1 hy).1
  have g0 := h.sh.gen x hx y (List.mem_of_getElem? hy)
  have hat := h.sh.at hx
  have hw := h.sh.win hx hk2
  have IU : InUse (AlS S x i y k) { x with cs := fill 0 x.cs (i * clsN S.classes x.cls) (clsN S.classes x.cls), cl := x.cl.set i ⟨y.gen, k, true⟩ } i ⟨y.gen, k, true⟩ x.cls x.no i y.gen :=
    ⟨rfl, slabOf_put_eq hat rfl, rfl, by simp [hk2], rfl, rfl⟩
  have hne : ∀ p ∈ ps, p.1.no = (x.no : Int) → ∀ an2 : Nat, p.1.at' = (an2 : Int) → an2 ≠ i := fun p hp e an2 ha e2 => by
    obtain ⟨x1, an1, y1, u1, _⟩ := h.hold p hp
    have h1 := u1.no
    rw [e, hat] at h1
    cases h1
    have h2 := u1.at'
    have h3 : an1 = i := by omega
    subst h3
    have h4 := u1.cel
    rw [hy] at h4
    cases h4
    rw [u1.used] at hyu
    cases hyu
  refine ⟨⟨h.sh.put hx rfl rfl (by simp) (fill_len 0 _ _ _) (fun z hz => ?_), fun q hq => ?_, ?_, fun s hs => ?_, ?_, h.opn⟩, IU⟩
  · rcases List.mem_or_eq_of_mem_set hz with hz | rfl
    · exact h.sh.gen x hx z hz
    · exact g0
  · rcases List.mem_cons.1 hq with rfl | hq
    · exact ⟨_, i, _, IU, by show 1 ≤ (y.gen : Int); omega, by simp [zeros], hk, fill_zeros hw hk⟩
    · refine (h.hold q hq).put (x := x) rfl rfl hat (fun e an2 ha => ?_)
      have hn := hne q hq e an2 ha
      refine ⟨by simp [List.getElem?_set_ne (Ne.symm hn)], fun n hn2 => oct_eq rfl hn2 (fun j h1 h2 => ?_)⟩
      have := slots_apart hn h1 h2
      show (fill 0 x.cs _ _)[j]? = _
      rw [fill_at 0 _ _ _ _ hw, if_neg (by omega)]
  · rw [List.map_cons, List.nodup_cons]
    refine ⟨fun hm => ?_, h.dist⟩
    obtain ⟨q, hq, he⟩ := List.mem_map.1 hm
    unfold keyS at he
    simp only [Prod.mk.injEq] at he
    exact hne q hq he.1 i he.2 rfl
  · refine (h.dead s hs).put (x := x) rfl hat (fun an2 y2 hy2 => ?_)
    by_cases e : an2 = i
    · subst e
      rw [hy2] at hy
      cases hy
      exact ⟨⟨y.gen, k, true⟩, by simp [hk2], Nat.le_refl _⟩
    · exact ⟨y2, by simp [List.getElem?_set_ne (Ne.symm e), hy2], Nat.le_refl _⟩
  · have h1 := usedAll_put (z := { x with cs := fill 0 x.cs (i * clsN S.classes x.cls) (clsN S.classes x.cls), cl := x.cl.set i ⟨y.gen, k, true⟩ }) h.sh.nos hx rfl
    have h2 := usedN_set (⟨y.gen, k, true⟩ : Cel) hy
    rw [hyu] at h2
    simp only [if_true, Bool.false_eq_true, if_false] at h2
    have h3 := h.cnt
    simp only at h1
    show usedAll (S.put _).sl = ps.length + 1
    omega
theorem Law.trim {S : CaSt} {ps : List (Sq × List Int)} {gs : List Sq} {B : Nat} (h : Law S ps gs B) : Law S.trim ps gs B := by
  refine ⟨h.sh.trim, fun p hp => ?_, h.dist, fun s hs => ?_, (usedAll_busy S.sl).trans h.cnt, h.opn⟩
  · obtain ⟨x, an, y, u, h1, h2, h3, h4⟩ := h.hold p hp
    obtain ⟨hx, hno⟩ := slabOf_some u.no
    have hb : x ∈ S.trim.sl := by
      show x ∈ busy S.sl
      unfold busy
      rw [List.mem_filter]
      refine ⟨hx, ?_⟩
      have : 0 < usedN x.cl := by
        unfold usedN
        exact List.length_pos_of_mem (List.mem_filter.2 ⟨List.mem_of_getElem? u.cel, u.used⟩)
      unfold idle
      have h5 : (usedN x.cl == 0) = false := by simp; omega
      rw [h5]
      rfl
    exact ⟨x, an, y, ⟨u.cls, by rw [← hno]; exact h.sh.trim.at hb, u.at', u.cel, u.gen, u.used⟩, h1, h2, h3, h4⟩
  · have hd := h.dead s hs
    refine ⟨hd.1, fun x hx => ?_⟩
    obtain ⟨hm, hno⟩ := slabOf_some hx
    exact hd.2 x (by rw [← hno]; exact h.sh.at (busy_sub S.sl |>.subset hm))

end Go.Proofs.Ytiaedonhbafpjaa
