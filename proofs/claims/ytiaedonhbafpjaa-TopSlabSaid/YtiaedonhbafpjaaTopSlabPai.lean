/-
  CheckClasses, ClassesError, NewCache, and the walk of SlabMade. No conditions.
  slices.Equal at []byte. No conditions.
  Cells of the program beside cells of the reference: which memory shows the same; and the slices that are watched. No conditions.
-/
import Derived.Test.YtiaedonhbafpjaaTopSlabPah
import Derived.Test.YtiaedonhbafpjaaTopSlabPag
import Derived.Test.YtiaedonhbafpjaaTopSlabPab
import Derived.Test.YtiaedonhbafpjaaTopSlabPae

namespace Go.Proofs.Ytiaedonhbafpjaa
section
open Go.RowKit

/-- What is wrong with class j. -/
def clsBad (zs : List Int) (j : Nat) : Int :=
  if 1 ≤ zs.getD j 0 ∧ zs.getD j 0 ≤ 4096 then (if 0 < j ∧ zs.getD j 0 ≤ zs.getD (j - 1) 0 then 5 else 0) else 2
/-- The first error of the classes from j on, n classes. -/
def clsFrom (zs : List Int) : Nat → Nat → Int
  | _, 0 => 0
  | j, n + 1 => if clsBad zs j = 0 then clsFrom zs (j + 1) n else clsBad zs j
/-- The error of classes. -/
def clsErr (zs : List Int) : Int := if 1 ≤ zs.length ∧ zs.length ≤ 20 then clsFrom zs 0 zs.length else 4

theorem clsFrom_step (zs : List Int) (j n : Nat) (h : clsBad zs j = 0) : clsFrom zs j (n + 1) = clsFrom zs (j + 1) n := by simp [clsFrom, h]
theorem clsFrom_stop (zs : List Int) (j n : Nat) (h : clsBad zs j ≠ 0) : clsFrom zs j (n + 1) = clsBad zs j := by simp [clsFrom, h]

set_option maxHeartbeats 4000000 in
set_option maxRecDepth 100000 in
theorem checkClasses_any (v : Value) (zs : List Int) (w : World) (hr : Reads w .i64 v zs) :
    Calls Try.prog 24 #[v] w (ChkPost (clsErr zs) w) := by
  obtain ⟨a, cap, rfl, hl, hc⟩ := hr.open
  have HC := Lib.hid hc
  clear hc hr
  by_cases h0 : 1 ≤ zs.length ∧ zs.length ≤ 20
  · have E0 := Lib.hid (show clsErr zs = clsFrom zs 0 zs.length from by unfold clsErr; rw [if_pos h0])
    have h1 : (1 : Int) ≤ (zs.length : Int) := by omega
    have h2 : (zs.length : Int) ≤ 20 := by omega
    clear h0
    go_enter Try.func24, Try.ntmps24
    go_wp2_with fail
    refine (within_slab_yes _ _ _ _ h1 h2).mono ?_
    rintro e w' ⟨rfl, rfl⟩
    go_wp2_with fail
    go_loop [11] (fun i => ∃ k : Nat, k ≤ zs.length ∧ i = .int .i64 k ∧ clsFrom zs k (zs.length - k) = clsErr zs) (fun i => zs.length - (intOf i).toNat)
    case atStart => exact ⟨0, Nat.zero_le _, rfl, E0.out.symm⟩
    case round =>
      obtain ⟨k, hk, rfl, hp⟩ := hrel
      have HP := Lib.hid hp
      clear hp
      by_cases hlt : k < zs.length
      · obtain ⟨b1, o1, rfl, g⟩ := HC.out k hlt
        have hprev : 0 < k → w.cell? ⟨b1, o1 + (k - 1), none⟩ = some (.int .i64 (zs.getD (k - 1) 0)) := by
          intro h
          obtain ⟨b2, o2, e1, g2⟩ := HC.out (k - 1) (by omega)
          simp only [Option.some.injEq, Addr.mk.injEq, and_true] at e1
          obtain ⟨rfl, rfl⟩ := e1
          exact g2
        have BAD := Lib.hid (rfl : clsBad zs k = clsBad zs k)
        have ST := Lib.hid (fun (h : clsBad zs k = 0) => by
          have := clsFrom_step zs k (zs.length - (k + 1)) h
          rw [show zs.length - (k + 1) + 1 = zs.length - k from by omega, HP.out] at this
          exact this)
        have SP := Lib.hid (fun (h : clsBad zs k ≠ 0) => by
          have := clsFrom_stop zs k (zs.length - (k + 1)) h
          rw [show zs.length - (k + 1) + 1 = zs.length - k from by omega, HP.out] at this
          exact this)
        unfold clsBad at ST SP
        generalize zs.getD k 0 = z at *
        by_cases hz : 1 ≤ z ∧ z ≤ 4096
        · rw [if_pos hz] at ST SP
          obtain ⟨z1, z2⟩ := hz
          by_cases hk0 : 0 < k
          · have gp := hprev hk0
            clear hprev
            generalize zs.getD (k - 1) 0 = y at *
            by_cases hy : z ≤ y
            · rw [if_pos ⟨hk0, hy⟩] at SP
              have SPo := Lib.hid (SP.out (by decide))
              clear ST SP
              go_wp2_with fail
              refine (within_slab_yes _ _ _ _ z1 z2).mono ?_
              rintro e w' ⟨rfl, rfl⟩
              go_wp2_with fail
              go_ret
              exact ⟨ret_int SPo.out.symm, rfl⟩
            · rw [if_neg (fun x => hy x.2)] at ST
              have STo := Lib.hid (ST.out rfl)
              have hy' : y < z := by omega
              clear ST SP hy
              go_wp2_with fail
              refine (within_slab_yes _ _ _ _ z1 z2).mono ?_
              rintro e w' ⟨rfl, rfl⟩
              go_wp2_with fail
              go_round
              case rel => exact ⟨k + 1, by omega, by go_num, STo.out.symm⟩
              case measure => simp [intOf]; omega
          · obtain rfl : k = 0 := by omega
            rw [Nat.add_zero] at g
            rw [if_neg (fun x => hk0 x.1)] at ST
            have STo := Lib.hid (ST.out rfl)
            clear ST SP hk0 hprev
            go_wp2_with fail
            refine (within_slab_yes _ _ _ _ z1 z2).mono ?_
            rintro e w' ⟨rfl, rfl⟩
            go_wp2_with fail
            go_round
            case rel => exact ⟨0 + 1, by omega, by first | rfl | go_num, STo.out.symm⟩
            case measure => simp [intOf]; omega
        · rw [if_neg hz] at SP
          have SPo := Lib.hid (SP.out (by decide))
          clear ST SP hprev
          have HZ := Lib.hid hz
          clear hz
          go_wp2_with fail
          refine (within_slab_no _ _ _ _ HZ.out).mono ?_
          rintro e w' ⟨rfl, rfl⟩
          go_wp2_with fail
          go_ret
          exact ⟨ret_int SPo.out.symm, rfl⟩
      · obtain rfl : k = zs.length := by omega
        have E1 := Lib.hid (show clsErr zs = 0 from by rw [← HP.out, Nat.sub_self]; rfl)
        clear hlt hk
        go_wp2_with fail
        go_ret
        exact ⟨ret_int E1.out.symm, rfl⟩
  · have E0 := Lib.hid (show clsErr zs = 4 from by unfold clsErr; rw [if_neg h0])
    have h1 : ¬ ((1 : Int) ≤ (zs.length : Int) ∧ (zs.length : Int) ≤ 20) := by omega
    have H1 := Lib.hid h1
    clear h0 h1
    go_enter Try.func24, Try.ntmps24
    go_wp2_with fail
    refine (within_slab_no _ _ _ _ H1.out).mono ?_
    rintro e w' ⟨rfl, rfl⟩
    go_wp2_with fail
    go_ret
    exact ⟨ret_int E0.out.symm, rfl⟩

/-- A new cache's cells: cv: its classes' slice. -/
def cacheCells (p : Nat) (o : Int) (cv : Value) (l : Int) : Array Value :=
  #[.pointer (some ⟨p, 0, none⟩), .int .i64 o, cv, .int .i64 l, .bool false, .int .i64 0, .slice none 0 0]
def cacheErr0 (zs : List Int) (l : Int) : Int := if clsErr zs = 0 then (if 1 ≤ l ∧ l ≤ 64 then 0 else 2) else clsErr zs
def cacheErr (st : BookSt) (zs : List Int) (l o : Int) : Int := if cacheErr0 zs l = 0 then heldE st o else cacheErr0 zs l
theorem cacheErr0_cls {zs : List Int} {l : Int} (h : clsErr zs ≠ 0) : cacheErr0 zs l = clsErr zs := by unfold cacheErr0; rw [if_neg h]
theorem cacheErr0_bad {zs : List Int} {l : Int} (h : clsErr zs = 0) (h2 : ¬ (1 ≤ l ∧ l ≤ 64)) : cacheErr0 zs l = 2 := by unfold cacheErr0; rw [if_pos h, if_neg h2]
theorem cacheErr0_ok {zs : List Int} {l : Int} (h : clsErr zs = 0) (h2 : 1 ≤ l ∧ l ≤ 64) : cacheErr0 zs l = 0 := by unfold cacheErr0; rw [if_pos h, if_pos h2]
theorem clsErr_len {zs : List Int} (h : clsErr zs = 0) : 1 ≤ zs.length ∧ zs.length ≤ 20 := by
  unfold clsErr at h
  by_cases h0 : 1 ≤ zs.length ∧ zs.length ≤ 20
  · exact h0
  · rw [if_neg h0] at h; omega

/-- NewCache: an object in a new block with its own copy of the classes, or an error. -/
def CachePost (p : Nat) (o : Int) (zs : List Int) (l err : Int) (w : World) : Ending → World → Prop := fun e w' =>
  Below w.heap.size w w' ∧ ((err ≠ 0 ∧ e = .returned (.tuple #[.pointer none, .int .i64 err])) ∨
    (err = 0 ∧ ∃ h cv, e = .returned (.tuple #[.pointer (some ⟨h, 0, none⟩), .int .i64 0]) ∧ w.heap.size ≤ h ∧ w'.heap[h]? = some (.cells (cacheCells p o cv l) 65 (0, 0)) ∧
      w'.ownsRow w.heap.size 3 1 cv zs.length (zs.map (Value.int .i64))))

set_option maxHeartbeats 4000000 in
set_option maxRecDepth 100000 in
theorem newCache_any (p : Nat) (o l : Int) (v : Value) (zs : List Int) (w : World) (F : Nat → Prop) (st : BookSt) (N : Nat) (hb : BookAt w F p st N) (hr : Reads w .i64 v zs) :
    Calls Try.prog 6 #[.pointer (some ⟨p, 0, none⟩), .int .i64 o, v, .int .i64 l] w (CachePost p o zs l (cacheErr st zs l o) w) := by
  have C := checkClasses_any v zs w hr
  have HH := Lib.hid (held_any p o w F st N hb)
  have HR := Lib.hid hr
  obtain ⟨a, cap, rfl, _, _⟩ := hr
  clear hb
  by_cases h0 : clsErr zs = 0
  · by_cases h1 : 1 ≤ l ∧ l ≤ 64
    · have E0 := Lib.hid (cacheErr0_ok h0 h1)
      have LEN := Lib.hid (show 0 < zs.length from by have := clsErr_len h0; omega)
      have CL := Lib.hid (clone_int _ zs w HR.out (by have := clsErr_len h0; omega))
      rw [h0] at C
      have HC := Lib.hid C
      obtain ⟨l1, l2⟩ := h1
      clear C h0
      by_cases he : heldE st o = 0
      · have E := Lib.hid (show cacheErr st zs l o = 0 from by unfold cacheErr; rw [E0.out, he]; rfl)
        rw [he] at HH
        clear he
        generalize heldV st o = hv at *
        go_enter Try.func6, Try.ntmps6
        go_wp2_with fail
        refine (HC.out).mono ?_
        rintro e w1 ⟨rfl, rfl⟩
        go_wp2_with fail
        refine (within_slab_yes _ _ _ _ l1 l2).mono ?_
        rintro e w1 ⟨rfl, rfl⟩
        go_wp2_with fail
        refine (HH.out).mono ?_
        rintro e w1 ⟨rfl, rfl⟩
        go_wp2_with fail
        refine (CL.out).mono ?_
        rintro e w1 ⟨cv, rfl, hown, hbel⟩
        obtain ⟨g, gc, rfl, _⟩ := own_cells hown LEN.out
        go_wp2_with fail
        go_ret2
        refine ⟨hbel.alloc hbel.size _, Or.inr ⟨E.out, _, _, rfl, hbel.size, ?_, hown.alloc _⟩⟩
        have := heap_alloc_new w1 (.cells (cacheCells p o (.slice (some ⟨g, 0, none⟩) zs.length gc) l) 65)
        simpa [cacheCells] using this
      · have E := Lib.hid (show cacheErr st zs l o = heldE st o from by unfold cacheErr; rw [E0.out]; rfl)
        have e1 : (heldE st o != 0) = true := bne_iff_ne.2 he
        have NE := Lib.hid he
        clear he CL
        generalize heldV st o = hv at *
        generalize heldE st o = he at *
        go_enter Try.func6, Try.ntmps6
        go_wp2_with fail
        refine (HC.out).mono ?_
        rintro e w1 ⟨rfl, rfl⟩
        go_wp2_with fail
        refine (within_slab_yes _ _ _ _ l1 l2).mono ?_
        rintro e w1 ⟨rfl, rfl⟩
        go_wp2_with fail
        refine (HH.out).mono ?_
        rintro e w1 ⟨rfl, rfl⟩
        go_wp2_with fail
        go_ret2
        refine ⟨Below.refl _ _, Or.inl ⟨by rw [E.out]; exact NE.out, by rw [E.out]; rfl⟩⟩
    · have E := Lib.hid (show cacheErr st zs l o = 2 from by unfold cacheErr; rw [cacheErr0_bad h0 h1]; rfl)
      rw [h0] at C
      have HC := Lib.hid C
      have H1 := Lib.hid h1
      clear C h0 HH h1
      go_enter Try.func6, Try.ntmps6
      go_wp2_with fail
      refine (HC.out).mono ?_
      rintro e w1 ⟨rfl, rfl⟩
      go_wp2_with fail
      refine (within_slab_no _ _ _ _ H1.out).mono ?_
      rintro e w1 ⟨rfl, rfl⟩
      go_wp2_with fail
      go_ret2
      refine ⟨Below.refl _ _, Or.inl ⟨by rw [E.out]; decide, by rw [E.out]; rfl⟩⟩
  · have E := Lib.hid (show cacheErr st zs l o = clsErr zs from by unfold cacheErr; rw [cacheErr0_cls h0, if_neg h0])
    have e1 : (clsErr zs != 0) = true := bne_iff_ne.2 h0
    have NE := Lib.hid h0
    have HC := Lib.hid C
    clear C h0 HH
    generalize clsErr zs = pe at *
    go_enter Try.func6, Try.ntmps6
    go_wp2_with fail
    refine (HC.out).mono ?_
    rintro e w1 ⟨rfl, rfl⟩
    go_wp2_with fail
    go_ret2
    refine ⟨Below.refl _ _, Or.inl ⟨by rw [E.out]; exact NE.out, by rw [E.out]; rfl⟩⟩

theorem cacheErr_one (zs : List Int) (l o lim : Int) : cacheErr (oneSt lim) zs l o = if cacheErr0 zs l = 0 then (if o = 1 then 0 else strangerE o) else cacheErr0 zs l := by unfold cacheErr; rw [heldE_one]

end
end Go.Proofs.Ytiaedonhbafpjaa

namespace Go.Proofs.Ytiaedonhbafpjaa
section
open Go.RowKit

end
end Go.Proofs.Ytiaedonhbafpjaa

namespace Go.Proofs.Ytiaedonhbafpjaa
section
open Go.RowKit

/-- R b o c p: the cell o of block b (the program's) stands beside the cell p of block c (the reference's). -/
abbrev Rel := Nat → Nat → Nat → Nat → Prop

structure Twins (w : World) (B : Nat) (R : Rel) : Prop where
  val : ∀ b o c p, R b o c p → ∃ z : Int, 0 ≤ z ∧ z ≤ 255 ∧ w.cell? ⟨b, o, none⟩ = some (.int .u8 z) ∧ w.cell? ⟨c, p, none⟩ = some (.int .u8 z)
  row : ∀ b o c p, R b o c p → B ≤ b ∧ B ≤ c ∧ (∃ cs, w.heap[b]? = some (.cells cs 5 (0, 0))) ∧ ∃ cs, w.heap[c]? = some (.cells cs 5 (0, 0))
  one : ∀ b o c p c' p', R b o c p → R b o c' p' → c = c' ∧ p = p'
  inj : ∀ b o c p b' o', R b o c p → R b' o' c p → b = b' ∧ o = o'
  apart : ∀ b o c p b' o' c' p', R b o c p → R b' o' c' p' → ¬ (b = c' ∧ o = p')

/-- A slice of the program and the reference's: the same length and room, cell beside cell. -/
def Pr (R : Rel) (xy : Value × Value) : Prop :=
  ∃ p q len cap, xy = (.slice p len cap, .slice q len cap) ∧ len ≤ cap ∧ cap ≤ 140737488355200 ∧ (0 < cap → ∃ b o c r, p = some ⟨b, o, none⟩ ∧ q = some ⟨c, r, none⟩ ∧ ∀ j, j < cap → R b (o + j) c (r + j))

theorem Twins.below {w w' : World} {B : Nat} {R : Rel} (h : Twins w B R) (hb : Below w.heap.size w w') : Twins w' B R := by
  have lt1 : ∀ b o c p, R b o c p → b < w.heap.size := fun b o c p hr => by obtain ⟨_, _, ⟨cs, h1⟩, _⟩ := h.row b o c p hr; exact lt_of h1
  have lt2 : ∀ b o c p, R b o c p → c < w.heap.size := fun b o c p hr => by obtain ⟨_, _, _, ⟨cs, h1⟩⟩ := h.row b o c p hr; exact lt_of h1
  refine ⟨fun b o c p hr => ?_, fun b o c p hr => ?_, h.one, h.inj, h.apart⟩
  · obtain ⟨z, z0, z1, h1, h2⟩ := h.val b o c p hr
    exact ⟨z, z0, z1, (hb.cell (p := ⟨b, o, none⟩) (lt1 b o c p hr)).trans h1, (hb.cell (p := ⟨c, p, none⟩) (lt2 b o c p hr)).trans h2⟩
  · obtain ⟨b1, b2, ⟨cs, h1⟩, ⟨ds, h2⟩⟩ := h.row b o c p hr
    exact ⟨b1, b2, ⟨cs, (hb.block b (lt1 b o c p hr)).trans h1⟩, ⟨ds, (hb.block c (lt2 b o c p hr)).trans h2⟩⟩

theorem Twins.drewN {w : World} {B : Nat} {R : Rel} (h : Twins w B R) (n : Nat) : Twins (w.drewN n) B R := h.below (bdrewN (Below.refl _ _) n)
/-- What cells hold, as a list. -/
def shown (w : World) (b o n : Nat) : List Int := (List.range n).map fun j => match w.cell? ⟨b, o + j, none⟩ with | some (.int _ z) => z | _ => 0

theorem shown_len (w : World) (b o n : Nat) : (shown w b o n).length = n := by simp [shown]

/-- Both slices, up to their room, read as the same list. -/
theorem Pr.reads {w : World} {B : Nat} {R : Rel} {p q : Option Addr} {len cap : Nat} (h : Pr R (.slice p len cap, .slice q len cap)) (ht : Twins w B R) (n : Nat) (hn : n ≤ cap) :
    ∃ zs : List Int, zs.length = n ∧ (∀ m, Reads w .u8 (.slice p n m) zs ∧ Reads w .u8 (.slice q n m) zs) ∧ ∀ z ∈ zs, 0 ≤ z ∧ z ≤ 255 := by
  obtain ⟨p', q', len', cap', e, hl, hm, hc⟩ := h
  simp only [Prod.mk.injEq, Value.slice.injEq] at e
  obtain ⟨⟨rfl, rfl, rfl⟩, rfl, _, _⟩ := e
  rcases Nat.eq_zero_or_pos n with h0 | h0
  · subst h0
    exact ⟨[], rfl, fun m => ⟨⟨p, m, rfl, by simp, fun h => absurd rfl h⟩, ⟨q, m, rfl, by simp, fun h => absurd rfl h⟩⟩, by simp⟩
  · obtain ⟨b, o, c, r, rfl, rfl, hR⟩ := hc (by omega)
    have key : ∀ j, j < n → ∃ z : Int, 0 ≤ z ∧ z ≤ 255 ∧ w.cell? ⟨b, o + j, none⟩ = some (.int .u8 z) ∧ w.cell? ⟨c, r + j, none⟩ = some (.int .u8 z) ∧ (shown w b o n).getD j 0 = z := by
      intro j hj
      obtain ⟨z, z0, z1, h1, h2⟩ := ht.val _ _ _ _ (hR j (by omega))
      exact ⟨z, z0, z1, h1, h2, by simp [shown, List.getD_eq_getElem?_getD, hj, h1]⟩
    refine ⟨shown w b o n, shown_len _ _ _ _, fun m => ⟨⟨_, m, by rw [shown_len], by rw [shown_len]; omega, fun _ => ⟨b, o, rfl, fun j hj => ?_⟩⟩, ⟨_, m, by rw [shown_len], by rw [shown_len]; omega, fun _ => ⟨c, r, rfl, fun j hj => ?_⟩⟩⟩, ?_⟩
    · rw [shown_len] at hj
      obtain ⟨z, _, _, h1, _, h3⟩ := key j hj
      rw [h1, h3]
    · rw [shown_len] at hj
      obtain ⟨z, _, _, _, h2, h3⟩ := key j hj
      rw [h2, h3]
    · intro z hz
      obtain ⟨j, hj, rfl⟩ := List.mem_iff_getElem.1 hz
      rw [shown_len] at hj
      obtain ⟨z, z0, z1, _, _, h3⟩ := key j hj
      rw [List.getD_eq_getElem?_getD, List.getElem?_eq_getElem (by rw [shown_len]; exact hj)] at h3
      simp only [Option.getD_some] at h3
      rw [h3]
      exact ⟨z0, z1⟩

end
end Go.Proofs.Ytiaedonhbafpjaa
