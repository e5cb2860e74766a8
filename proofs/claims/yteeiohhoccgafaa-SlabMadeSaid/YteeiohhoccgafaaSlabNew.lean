/-
  CheckClasses, ClassesError, NewCache, and the walk of SlabMade. No conditions.
-/
import Derived.Test.YteeiohhoccgafaaMade
import Derived.Test.YteeiohhoccgafaaFairOf2
import Derived.Test.YteeiohhoccgafaaClassOf
namespace Go.Proofs.Yteeiohhoccgafaa
open Go.RowKit

/-- What is wrong with class j. -/
def clsBad (zs : List Int) (j : Nat) : Int :=
  if 1 ≤ zs.getD j 0 ∧ zs.getD j 0 ≤ 4096 then (if 0 < j ∧ zs.getD j 0 ≤ zs.getD (j - 1) 0 then 5 else 0) else 2
/-- The first error of the classes from j on, n classes. -/
def clsFrom (zs : List Int) : Nat → Nat → Int
  | _, 0 => 0
  | j, n + 1 => if clsBad zs j = 0 then clsFrom zs (j + 1) n else clsBad zs j
/-- The error of classes. -/
def clsErr (zs : List Int) : Int := if 1 ≤ zs.length ∧ zs.length ≤ 20 then clsFrom zs 0 zs.length else 4

theorem clsFrom_step (zs : List Int) (j n : Nat) (h : clsBad zs j = 0) : clsFrom zs j (n + 1) = clsFrom zs (j + 1) n := by simp [clsFrom, h]
theorem clsFrom_stop (zs : List Int) (j n : Nat) (h : clsBad zs j ≠ 0) : clsFrom zs j (n + 1) = clsBad zs j := by simp [clsFrom, h]

set_option maxHeartbeats 4000000 in
set_option maxRecDepth 100000 in
theorem checkClasses_any (v : Value) (zs : List Int) (w : World) (hr : Reads w .i64 v zs) :
    Calls Try.prog 38 #[v] w (ChkPost (clsErr zs) w) := by
  obtain ⟨a, cap, rfl, hl, hc⟩ := hr.open
  have HC := Lib.hid hc
  clear hc hr
  by_cases h0 : 1 ≤ zs.length ∧ zs.length ≤ 20
  · have E0 := Lib.hid (show clsErr zs = clsFrom zs 0 zs.length from by unfold clsErr; rw [if_pos h0])
    have h1 : (1 : Int) ≤ (zs.length : Int) := by omega
    have h2 : (zs.length : Int) ≤ 20 := by omega
    clear h0
    go_enter Try.func38, Try.ntmps38
    go_wp2_with fail
    refine (within_slab_yes _ _ _ _ h1 h2).mono ?_
    rintro e w' ⟨rfl, rfl⟩
    go_wp2_with fail
    go_loop [11] (fun i => ∃ k : Nat, k ≤ zs.length ∧ i = .int .i64 k ∧ clsFrom zs k (zs.length - k) = clsErr zs) (fun i => zs.length - (intOf i).toNat)
    case atStart => exact ⟨0, Nat.zero_le _, rfl, E0.out.symm⟩
    case round =>
      obtain ⟨k, hk, rfl, hp⟩ := hrel
      have HP := Lib.hid hp
      clear hp
      by_cases hlt : k < zs.length
      · obtain ⟨b1, o1, rfl, g⟩ := HC.out k hlt
        have hprev : 0 < k → w.cell? ⟨b1, o1 + (k - 1), none⟩ = some (.int .i64 (zs.getD (k - 1) 0)) := by
          intro h
          obtain ⟨b2, o2, e1, g2⟩ := HC.out (k - 1) (by omega)
          simp only [Option.some.injEq, Addr.mk.injEq, and_true] at e1
          obtain ⟨rfl, rfl⟩ := e1
          exact g2
        have BAD := Lib.hid (rfl : clsBad zs k = clsBad zs k)
        have ST := Lib.hid (fun (h : clsBad zs k = 0) => by
          have := clsFrom_step zs k (zs.length - (k + 1)) h
          rw [show zs.length - (k + 1) + 1 = zs.length - k from by omega, HP.out] at this
          exact this)
        have SP := Lib.hid (fun (h : clsBad zs k ≠ 0) => by
          have := clsFrom_stop zs k (zs.length - (k + 1)) h
          rw [show zs.length - (k + 1) + 1 = zs.length - k from by omega, HP.out] at this
          exact this)
        unfold clsBad at ST SP
        generalize zs.getD k 0 = z at *
        by_cases hz : 1 ≤ z ∧ z ≤ 4096
        · rw [if_pos hz] at ST SP
          obtain ⟨z1, z2⟩ := hz
          by_cases hk0 : 0 < k
          · have gp := hprev hk0
            clear hprev
            generalize zs.getD (k - 1) 0 = y at *
            by_cases hy : z ≤ y
            · rw [if_pos ⟨hk0, hy⟩] at SP
              have SPo := Lib.hid (SP.out (by decide))
              clear ST SP
              go_wp2_with fail
              refine (within_slab_yes _ _ _ _ z1 z2).mono ?_
              rintro e w' ⟨rfl, rfl⟩
              go_wp2_with fail
              go_ret
              exact ⟨ret_int SPo.out.symm, rfl⟩
            · rw [if_neg (fun x => hy x.2)] at ST
              have STo := Lib.hid (ST.out rfl)
              have hy' : y < z := by omega
              clear ST SP hy
              go_wp2_with fail
              refine (within_slab_yes _ _ _ _ z1 z2).mono ?_
              rintro e w' ⟨rfl, rfl⟩
              go_wp2_with fail
              go_round
              case rel => exact ⟨k + 1, by omega, by go_num, STo.out.symm⟩
              case measure => simp [intOf]; omega
          · obtain rfl : k = 0 := by omega
            rw [Nat.add_zero] at g
            rw [if_neg (fun x => hk0 x.1)] at ST
            have STo := Lib.hid (ST.out rfl)
            clear ST SP hk0 hprev
            go_wp2_with fail
            refine (within_slab_yes _ _ _ _ z1 z2).mono ?_
            rintro e w' ⟨rfl, rfl⟩
            go_wp2_with fail
            go_round
            case rel => exact ⟨0 + 1, by omega, by first | rfl | go_num, STo.out.symm⟩
            case measure => simp [intOf]; omega
        · rw [if_neg hz] at SP
          have SPo := Lib.hid (SP.out (by decide))
          clear ST SP hprev
          have HZ := Lib.hid hz
          clear hz
          go_wp2_with fail
          refine (within_slab_no _ _ _ _ HZ.out).mono ?_
          rintro e w' ⟨rfl, rfl⟩
          go_wp2_with fail
          go_ret
          exact ⟨ret_int SPo.out.symm, rfl⟩
      · obtain rfl : k = zs.length := by omega
        have E1 := Lib.hid (show clsErr zs = 0 from by rw [← HP.out, Nat.sub_self]; rfl)
        clear hlt hk
        go_wp2_with fail
        go_ret
        exact ⟨ret_int E1.out.symm, rfl⟩
  · have E0 := Lib.hid (show clsErr zs = 4 from by unfold clsErr; rw [if_neg h0])
    have h1 : ¬ ((1 : Int) ≤ (zs.length : Int) ∧ (zs.length : Int) ≤ 20) := by omega
    have H1 := Lib.hid h1
    clear h0 h1
    go_enter Try.func38, Try.ntmps38
    go_wp2_with fail
    refine (within_slab_no _ _ _ _ H1.out).mono ?_
    rintro e w' ⟨rfl, rfl⟩
    go_wp2_with fail
    go_ret
    exact ⟨ret_int E0.out.symm, rfl⟩

set_option maxHeartbeats 4000000 in
set_option maxRecDepth 100000 in
theorem classesError_any (v : Value) (zs : List Int) (w : World) (hr : Reads w .i64 v zs) :
    Calls Try.prog 37 #[v] w (ChkPost (clsErr zs) w) := by
  obtain ⟨a, cap, rfl, hl, hc⟩ := hr.open
  have HC := Lib.hid hc
  clear hc hr
  by_cases h0 : 1 ≤ zs.length ∧ zs.length ≤ 20
  · have E0 := Lib.hid (show clsErr zs = clsFrom zs 0 zs.length from by unfold clsErr; rw [if_pos h0])
    have h1 : (1 : Int) ≤ (zs.length : Int) := by omega
    have h2 : (zs.length : Int) ≤ 20 := by omega
    clear h0
    go_enter Try.func37, Try.ntmps37
    go_wp2_with fail
    go_loop [15] (fun i => ∃ k : Nat, k ≤ zs.length ∧ i = .int .i64 k ∧ clsFrom zs k (zs.length - k) = clsErr zs) (fun i => zs.length - (intOf i).toNat)
    case atStart => exact ⟨0, Nat.zero_le _, rfl, E0.out.symm⟩
    case round =>
      obtain ⟨k, hk, rfl, hp⟩ := hrel
      have HP := Lib.hid hp
      clear hp
      by_cases hlt : k < zs.length
      · obtain ⟨b1, o1, rfl, g⟩ := HC.out k hlt
        have hprev : 0 < k → w.cell? ⟨b1, o1 + (k - 1), none⟩ = some (.int .i64 (zs.getD (k - 1) 0)) := by
          intro h
          obtain ⟨b2, o2, e1, g2⟩ := HC.out (k - 1) (by omega)
          simp only [Option.some.injEq, Addr.mk.injEq, and_true] at e1
          obtain ⟨rfl, rfl⟩ := e1
          exact g2
        have BAD := Lib.hid (rfl : clsBad zs k = clsBad zs k)
        have ST := Lib.hid (fun (h : clsBad zs k = 0) => by
          have := clsFrom_step zs k (zs.length - (k + 1)) h
          rw [show zs.length - (k + 1) + 1 = zs.length - k from by omega, HP.out] at this
          exact this)
        have SP := Lib.hid (fun (h : clsBad zs k ≠ 0) => by
          have := clsFrom_stop zs k (zs.length - (k + 1)) h
          rw [show zs.length - (k + 1) + 1 = zs.length - k from by omega, HP.out] at this
          exact this)
        unfold clsBad at ST SP
        generalize zs.getD k 0 = z at *
        by_cases hz : 1 ≤ z ∧ z ≤ 4096
        · rw [if_pos hz] at ST SP
          obtain ⟨z1, z2⟩ := hz
          by_cases hk0 : 0 < k
          · have gp := hprev hk0
            clear hprev
            generalize zs.getD (k - 1) 0 = y at *
            by_cases hy : z ≤ y
            · rw [if_pos ⟨hk0, hy⟩] at SP
              have SPo := Lib.hid (SP.out (by decide))
              clear ST SP
              go_wp2_with fail
              go_ret
              exact ⟨ret_int SPo.out.symm, rfl⟩
            · rw [if_neg (fun x => hy x.2)] at ST
              have STo := Lib.hid (ST.out rfl)
              have hy' : y < z := by omega
              clear ST SP hy
              go_wp2_with fail
              go_round
              case rel => exact ⟨k + 1, by omega, by go_num, STo.out.symm⟩
              case measure => simp [intOf]; omega
          · obtain rfl : k = 0 := by omega
            rw [Nat.add_zero] at g
            rw [if_neg (fun x => hk0 x.1)] at ST
            have STo := Lib.hid (ST.out rfl)
            clear ST SP hk0 hprev
            go_wp2_with fail
            go_round
            case rel => exact ⟨0 + 1, by omega, by first | rfl | go_num, STo.out.symm⟩
            case measure => simp [intOf]; omega
        · rw [if_neg hz] at SP
          have SPo := Lib.hid (SP.out (by decide))
          clear ST SP hprev
          rcases (show z < 1 ∨ (1 ≤ z ∧ 4096 < z) from by omega) with h3 | ⟨h3, h4⟩
          · clear hz
            go_wp2_with fail
            go_ret
            exact ⟨ret_int SPo.out.symm, rfl⟩
          · clear hz
            go_wp2_with fail
            go_ret
            exact ⟨ret_int SPo.out.symm, rfl⟩
      · obtain rfl : k = zs.length := by omega
        have E1 := Lib.hid (show clsErr zs = 0 from by rw [← HP.out, Nat.sub_self]; rfl)
        clear hlt hk
        go_wp2_with fail
        go_ret
        exact ⟨ret_int E1.out.symm, rfl⟩
  · have E0 := Lib.hid (show clsErr zs = 4 from by unfold clsErr; rw [if_neg h0])
    rcases (show (zs.length : Int) < 1 ∨ ((1 : Int) ≤ (zs.length : Int) ∧ 20 < (zs.length : Int)) from by omega) with h3 | ⟨h3, h4⟩
    · clear h0
      go_enter Try.func37, Try.ntmps37
      go_wp2_with fail
      go_ret
      exact ⟨ret_int E0.out.symm, rfl⟩
    · clear h0
      go_enter Try.func37, Try.ntmps37
      go_wp2_with fail
      go_ret
      exact ⟨ret_int E0.out.symm, rfl⟩

/-- A new cache's cells: cv: its classes' slice. -/
def cacheCells (p : Nat) (o : Int) (cv : Value) (l : Int) : Array Value :=
  #[.pointer (some ⟨p, 0, none⟩), .int .i64 o, cv, .int .i64 l, .bool false, .int .i64 0, .slice none 0 0]
def cacheErr0 (zs : List Int) (l : Int) : Int := if clsErr zs = 0 then (if 1 ≤ l ∧ l ≤ 64 then 0 else 2) else clsErr zs
def cacheErr (st : BookSt) (zs : List Int) (l o : Int) : Int := if cacheErr0 zs l = 0 then heldE st o else cacheErr0 zs l
theorem cacheErr0_cls {zs : List Int} {l : Int} (h : clsErr zs ≠ 0) : cacheErr0 zs l = clsErr zs := by unfold cacheErr0; rw [if_neg h]
theorem cacheErr0_bad {zs : List Int} {l : Int} (h : clsErr zs = 0) (h2 : ¬ (1 ≤ l ∧ l ≤ 64)) : cacheErr0 zs l = 2 := by unfold cacheErr0; rw [if_pos h, if_neg h2]
theorem cacheErr0_ok {zs : List Int} {l : Int} (h : clsErr zs = 0) (h2 : 1 ≤ l ∧ l ≤ 64) : cacheErr0 zs l = 0 := by unfold cacheErr0; rw [if_pos h, if_pos h2]
theorem clsErr_len {zs : List Int} (h : clsErr zs = 0) : 1 ≤ zs.length ∧ zs.length ≤ 20 := by
  unfold clsErr at h
  by_cases h0 : 1 ≤ zs.length ∧ zs.length ≤ 20
  · exact h0
  · rw [if_neg h0] at h; omega

/-- NewCache: an object in a new block with its own copy of the classes, or an error. -/
def CachePost (p : Nat) (o : Int) (zs : List Int) (l err : Int) (w : World) : Ending → World → Prop := fun e w' =>
  Below w.heap.size w w' ∧ ((err ≠ 0 ∧ e = .returned (.tuple #[.pointer none, .int .i64 err])) ∨
    (err = 0 ∧ ∃ h cv, e = .returned (.tuple #[.pointer (some ⟨h, 0, none⟩), .int .i64 0]) ∧ w.heap.size ≤ h ∧ w'.heap[h]? = some (.cells (cacheCells p o cv l) 94 (0, 0)) ∧
      w'.ownsRow w.heap.size 3 1 cv zs.length (zs.map (Value.int .i64))))

set_option maxHeartbeats 4000000 in
set_option maxRecDepth 100000 in
theorem newCache_any (p : Nat) (o l : Int) (v : Value) (zs : List Int) (w : World) (F : Nat → Prop) (st : BookSt) (N : Nat) (hb : BookAt w F p st N) (hr : Reads w .i64 v zs) :
    Calls Try.prog 39 #[.pointer (some ⟨p, 0, none⟩), .int .i64 o, v, .int .i64 l] w (CachePost p o zs l (cacheErr st zs l o) w) := by
  have C := checkClasses_any v zs w hr
  have HH := Lib.hid (held_any p o w F st N hb)
  have HR := Lib.hid hr
  obtain ⟨a, cap, rfl, _, _⟩ := hr
  clear hb
  by_cases h0 : clsErr zs = 0
  · by_cases h1 : 1 ≤ l ∧ l ≤ 64
    · have E0 := Lib.hid (cacheErr0_ok h0 h1)
      have LEN := Lib.hid (show 0 < zs.length from by have := clsErr_len h0; omega)
      have CL := Lib.hid (clone_int _ zs w HR.out (by have := clsErr_len h0; omega))
      rw [h0] at C
      have HC := Lib.hid C
      obtain ⟨l1, l2⟩ := h1
      clear C h0
      by_cases he : heldE st o = 0
      · have E := Lib.hid (show cacheErr st zs l o = 0 from by unfold cacheErr; rw [E0.out, he]; rfl)
        rw [he] at HH
        clear he
        generalize heldV st o = hv at *
        go_enter Try.func39, Try.ntmps39
        go_wp2_with fail
        refine (HC.out).mono ?_
        rintro e w1 ⟨rfl, rfl⟩
        go_wp2_with fail
        refine (within_slab_yes _ _ _ _ l1 l2).mono ?_
        rintro e w1 ⟨rfl, rfl⟩
        go_wp2_with fail
        refine (HH.out).mono ?_
        rintro e w1 ⟨rfl, rfl⟩
        go_wp2_with fail
        refine (CL.out).mono ?_
        rintro e w1 ⟨cv, rfl, hown, hbel⟩
        obtain ⟨g, gc, rfl, _⟩ := own_cells hown LEN.out
        go_wp2_with fail
        go_ret2
        refine ⟨hbel.alloc hbel.size _, Or.inr ⟨E.out, _, _, rfl, hbel.size, ?_, hown.alloc _⟩⟩
        have := heap_alloc_new w1 (.cells (cacheCells p o (.slice (some ⟨g, 0, none⟩) zs.length gc) l) 94)
        simpa [cacheCells] using this
      · have E := Lib.hid (show cacheErr st zs l o = heldE st o from by unfold cacheErr; rw [E0.out]; rfl)
        have e1 : (heldE st o != 0) = true := bne_iff_ne.2 he
        have NE := Lib.hid he
        clear he CL
        generalize heldV st o = hv at *
        generalize heldE st o = he at *
        go_enter Try.func39, Try.ntmps39
        go_wp2_with fail
        refine (HC.out).mono ?_
        rintro e w1 ⟨rfl, rfl⟩
        go_wp2_with fail
        refine (within_slab_yes _ _ _ _ l1 l2).mono ?_
        rintro e w1 ⟨rfl, rfl⟩
        go_wp2_with fail
        refine (HH.out).mono ?_
        rintro e w1 ⟨rfl, rfl⟩
        go_wp2_with fail
        go_ret2
        refine ⟨Below.refl _ _, Or.inl ⟨by rw [E.out]; exact NE.out, by rw [E.out]; rfl⟩⟩
    · have E := Lib.hid (show cacheErr st zs l o = 2 from by unfold cacheErr; rw [cacheErr0_bad h0 h1]; rfl)
      rw [h0] at C
      have HC := Lib.hid C
      have H1 := Lib.hid h1
      clear C h0 HH h1
      go_enter Try.func39, Try.ntmps39
      go_wp2_with fail
      refine (HC.out).mono ?_
      rintro e w1 ⟨rfl, rfl⟩
      go_wp2_with fail
      refine (within_slab_no _ _ _ _ H1.out).mono ?_
      rintro e w1 ⟨rfl, rfl⟩
      go_wp2_with fail
      go_ret2
      refine ⟨Below.refl _ _, Or.inl ⟨by rw [E.out]; decide, by rw [E.out]; rfl⟩⟩
  · have E := Lib.hid (show cacheErr st zs l o = clsErr zs from by unfold cacheErr; rw [cacheErr0_cls h0, if_neg h0])
    have e1 : (clsErr zs != 0) = true := bne_iff_ne.2 h0
    have NE := Lib.hid h0
    have HC := Lib.hid C
    clear C h0 HH
    generalize clsErr zs = pe at *
    go_enter Try.func39, Try.ntmps39
    go_wp2_with fail
    refine (HC.out).mono ?_
    rintro e w1 ⟨rfl, rfl⟩
    go_wp2_with fail
    go_ret2
    refine ⟨Below.refl _ _, Or.inl ⟨by rw [E.out]; exact NE.out, by rw [E.out]; rfl⟩⟩

theorem cacheErr_one (zs : List Int) (l o lim : Int) : cacheErr (oneSt lim) zs l o = if cacheErr0 zs l = 0 then (if o = 1 then 0 else strangerE o) else cacheErr0 zs l := by unfold cacheErr; rw [heldE_one]

set_option maxHeartbeats 4000000 in
set_option maxRecDepth 100000 in
theorem slabMade_walk (o : Int) (v : Value) (zs : List Int) (l : Int) (w : World) (_ : -9223372036854775808 ≤ o ∧ o ≤ 9223372036854775807) (hv : RowIn w .i64 8 v zs) (_ : -9223372036854775808 ≤ l ∧ l ≤ 9223372036854775807) :
    Calls Try.prog 10 #[.int .i64 o, v, .int .i64 l] w (LawPost w) := by
  have BK := book_any 100 w (by omega) (by omega)
  have HR := Lib.hid hv.reads
  obtain ⟨a, cap, rfl, _, _⟩ := hv.reads
  clear hv
  by_cases h0 : clsErr zs = 0
  · have CE := Lib.hid h0
    by_cases h1 : 1 ≤ l ∧ l ≤ 64
    · have E0 := Lib.hid (cacheErr0_ok h0 h1)
      obtain ⟨l1, l2⟩ := h1
      clear h0
      by_cases ho : o = 1
      · have WE := Lib.hid (show cacheErr (oneSt 100) zs l o = 0 from by rw [cacheErr_one, E0.out, if_pos rfl, if_pos ho])
        subst ho
        go_enter Try.func10, Try.ntmps10
        go_wp2_with fail
        refine BK.mono ?_
        rintro e w1 ⟨p, rfl, hb1, bel1⟩
        have R1 := HR.out.below bel1 rfl
        have NH := newCache_any p 1 l _ zs _ _ _ _ hb1 R1
        rw [WE.out] at NH
        have NH := Lib.hid NH
        have C1 := classesError_any _ zs _ R1
        have C2 := checkClasses_any _ zs _ R1
        rw [CE.out] at C1 C2
        have C1 := Lib.hid C1
        have C2 := Lib.hid C2
        clear hb1 BK R1
        go_wp2_with fail
        refine C1.out.mono ?_
        rintro e w2 ⟨rfl, rfl⟩
        go_wp2_with fail
        refine C2.out.mono ?_
        rintro e w2 ⟨rfl, rfl⟩
        go_wp2_with fail
        refine NH.out.mono ?_
        rintro e w3 ⟨hbel3, h | ⟨_, h, cv, rfl, _, _, _⟩⟩
        · exact absurd rfl h.1
        · have bel3 := bel1.trans (hbel3.mono bel1.size)
          go_wp2_with fail
          go_ret
          exact ⟨by first | rfl | exact ret_bool (by simp), bel3⟩
      · have WE := Lib.hid (show cacheErr (oneSt 100) zs l o = strangerE o from by rw [cacheErr_one, E0.out, if_pos rfl, if_neg ho])
        have SE := Lib.hid (fun w => stranger_any o w)
        have SN := strangerE_ne o
        have o1 : (o != 1) = true := bne_iff_ne.2 ho
        generalize strangerE o = se at *
        have s1 : (se != 0) = true := bne_iff_ne.2 SN
        have s2 : (se == se) = true := by simp
        clear ho
        go_enter Try.func10, Try.ntmps10
        go_wp2_with fail
        refine BK.mono ?_
        rintro e w1 ⟨p, rfl, hb1, bel1⟩
        have R1 := HR.out.below bel1 rfl
        have NH := newCache_any p o l _ zs _ _ _ _ hb1 R1
        rw [WE.out] at NH
        have NH := Lib.hid NH
        have C1 := classesError_any _ zs _ R1
        have C2 := checkClasses_any _ zs _ R1
        rw [CE.out] at C1 C2
        have C1 := Lib.hid C1
        have C2 := Lib.hid C2
        clear hb1 BK R1
        go_wp2_with fail
        refine C1.out.mono ?_
        rintro e w2 ⟨rfl, rfl⟩
        go_wp2_with fail
        refine C2.out.mono ?_
        rintro e w2 ⟨rfl, rfl⟩
        go_wp2_with fail
        refine (SE.out _).mono ?_
        rintro e w2 ⟨rfl, rfl⟩
        go_wp2_with fail
        refine NH.out.mono ?_
        rintro e w3 ⟨hbel3, ⟨_, rfl⟩ | h⟩
        · have bel3 := bel1.trans (hbel3.mono bel1.size)
          go_wp2_with fail
          go_ret
          exact ⟨by first | rfl | exact ret_bool (by simp), bel3⟩
        · exact absurd h.1 SN
    · have WE := Lib.hid (show cacheErr (oneSt 100) zs l o = 2 from by rw [cacheErr_one, cacheErr0_bad h0 h1]; rfl)
      rcases (show l < 1 ∨ (1 ≤ l ∧ 64 < l) from by omega) with h3 | ⟨h3, h4⟩
      · clear h0 h1
        go_enter Try.func10, Try.ntmps10
        go_wp2_with fail
        refine BK.mono ?_
        rintro e w1 ⟨p, rfl, hb1, bel1⟩
        have R1 := HR.out.below bel1 rfl
        have NH := newCache_any p o l _ zs _ _ _ _ hb1 R1
        rw [WE.out] at NH
        have NH := Lib.hid NH
        have C1 := classesError_any _ zs _ R1
        have C2 := checkClasses_any _ zs _ R1
        rw [CE.out] at C1 C2
        have C1 := Lib.hid C1
        have C2 := Lib.hid C2
        clear hb1 BK R1
        go_wp2_with fail
        refine C1.out.mono ?_
        rintro e w2 ⟨rfl, rfl⟩
        go_wp2_with fail
        refine C2.out.mono ?_
        rintro e w2 ⟨rfl, rfl⟩
        go_wp2_with fail
        refine NH.out.mono ?_
        rintro e w3 ⟨hbel3, ⟨_, rfl⟩ | h⟩
        · have bel3 := bel1.trans (hbel3.mono bel1.size)
          go_wp2_with fail
          go_ret
          exact ⟨by first | rfl | exact ret_bool (by simp), bel3⟩
        · exact absurd h.1 (by decide)
      · clear h0 h1
        go_enter Try.func10, Try.ntmps10
        go_wp2_with fail
        refine BK.mono ?_
        rintro e w1 ⟨p, rfl, hb1, bel1⟩
        have R1 := HR.out.below bel1 rfl
        have NH := newCache_any p o l _ zs _ _ _ _ hb1 R1
        rw [WE.out] at NH
        have NH := Lib.hid NH
        have C1 := classesError_any _ zs _ R1
        have C2 := checkClasses_any _ zs _ R1
        rw [CE.out] at C1 C2
        have C1 := Lib.hid C1
        have C2 := Lib.hid C2
        clear hb1 BK R1
        go_wp2_with fail
        refine C1.out.mono ?_
        rintro e w2 ⟨rfl, rfl⟩
        go_wp2_with fail
        refine C2.out.mono ?_
        rintro e w2 ⟨rfl, rfl⟩
        go_wp2_with fail
        refine NH.out.mono ?_
        rintro e w3 ⟨hbel3, ⟨_, rfl⟩ | h⟩
        · have bel3 := bel1.trans (hbel3.mono bel1.size)
          go_wp2_with fail
          go_ret
          exact ⟨by first | rfl | exact ret_bool (by simp), bel3⟩
        · exact absurd h.1 (by decide)
  · have WE := Lib.hid (show cacheErr (oneSt 100) zs l o = clsErr zs from by rw [cacheErr_one, cacheErr0_cls h0, if_neg h0])
    generalize hpe : clsErr zs = pe at *
    have CE := Lib.hid hpe
    have s1 : (pe != 0) = true := bne_iff_ne.2 h0
    have s3 : (pe == 0) = false := beq_eq_false_iff_ne.2 h0
    have s2 : (pe == pe) = true := by simp
    have s4 : (pe != pe) = false := by simp
    have SN := Lib.hid h0
    clear h0 hpe
    go_enter Try.func10, Try.ntmps10
    go_wp2_with fail
    refine BK.mono ?_
    rintro e w1 ⟨p, rfl, hb1, bel1⟩
    have R1 := HR.out.below bel1 rfl
    have NH := newCache_any p o l _ zs _ _ _ _ hb1 R1
    rw [WE.out] at NH
    have NH := Lib.hid NH
    have C1 := classesError_any _ zs _ R1
    have C2 := checkClasses_any _ zs _ R1
    rw [CE.out] at C1 C2
    have C1 := Lib.hid C1
    have C2 := Lib.hid C2
    clear hb1 BK R1
    go_wp2_with fail
    refine C1.out.mono ?_
    rintro e w2 ⟨rfl, rfl⟩
    go_wp2_with fail
    refine C2.out.mono ?_
    rintro e w2 ⟨rfl, rfl⟩
    go_wp2_with fail
    refine NH.out.mono ?_
    rintro e w3 ⟨hbel3, ⟨_, rfl⟩ | h⟩
    · have bel3 := bel1.trans (hbel3.mono bel1.size)
      go_wp2_with fail
      go_ret
      exact ⟨by first | rfl | exact ret_bool (by simp), bel3⟩
    · exact absurd h.1 SN.out

end Go.Proofs.Yteeiohhoccgafaa
