/-
  strconv.ParseUint and the reference's reader of octets. Conditions: Go's own ErrSyntax is laid.
-/
import Derived.Test.YtifibhaalepmgaaDoorQuotedP
import Derived.Test.YtifibhaalepmgaaDoorQuoteOf
import Derived.Test.YtifibhaalepmgaaDoorOctets
import Derived.Test.YtifibhaalepmgaaDoorEqualB
namespace Go.Proofs.YtifibhaalepmgaaDoor
open Go Go.RowKit
set_option linter.unusedVariables false

def ErrAt (w : World) : Prop := ∃ tp p, w.var? Tryd.prog "strconv.ErrSyntax" = some #[.iface tp p]
theorem ErrAt.below {w w' : World} (h : ErrAt w) (hb : Below w.heap.size w w') : ErrAt w' := by
  obtain ⟨t, p, hv⟩ := h
  exact ⟨t, p, var_below hv hb⟩
def PUPost (t : List UInt8) (w : World) : Ending → World → Prop := fun e w' => Below w.heap.size w w' ∧ ((∃ n : Int, e = .returned (.tuple #[.int .u64 n, .nilIface]) ∧ 0 ≤ n ∧ n ≤ 255 ∧ ∀ c : UInt8, t = hex2 c → n = c.toNat) ∨ ((∀ c : UInt8, t ≠ hex2 c) ∧ ∃ m ty pp, e = .returned (.tuple #[.int .u64 m, .iface ty (.pointer (some pp))])))

set_option maxHeartbeats 2000000 in
set_option maxRecDepth 100000 in
theorem parseU_any (a b : UInt8) (w : World) (he : ErrAt w) :
    Calls Tryd.prog 52 #[.string ⟨#[a, b]⟩, .int .i64 16, .int .i64 8] w (PUPost [a, b] w) := by
  have P := Lib.hid (parse16_any a b w)
  have TE : Hid (∀ w', Below w.heap.size w w' → Calls Tryd.prog 70 #[.string ⟨#[80, 97, 114, 115, 101, 85, 105, 110, 116]⟩, .string ⟨#[a, b]⟩, .int .i64 16, .int .i64 8, .iface 140 (.int .i64 2)] w' (fun e w'' => ∃ ty pp, e = .returned (.iface ty (.pointer (some pp))) ∧ Below w'.heap.size w' w'')) := Lib.hid (fun w' hb => by
    obtain ⟨tp, p, hv⟩ := he.below hb
    have hc : w'.cell? ⟨6, 0, none⟩ = some (.iface tp p) := by have := World.var?_cell (P := Tryd.prog) (g := 6) (by kernel_rfl) hv 0; simpa using this
    exact (Tryd.strconv_toError_syntax ⟨#[80, 97, 114, 115, 101, 85, 105, 110, 116]⟩ ⟨#[a, b]⟩ 16 8 (.iface tp p) w' (by show 2 ≤ _; omega) hc (Or.inr ⟨tp, p, rfl⟩)).mono fun e w'' ⟨N, h1, _, _, h4⟩ => ⟨_, _, h1, h4⟩)
  clear he
  generalize hst : (⟨#[a, b]⟩ : ByteArray) = st at *
  generalize ([a, b] : List UInt8) = bs at *
  clear hst
  go_enter Tryd.func52, Tryd.ntmps52
  go_wp2_with fail
  refine P.out.mono ?_
  rintro e w1 ⟨hb1, ⟨n, rfl, n0, n1, hn⟩ | ⟨hbad, rfl⟩⟩
  · have HN := Lib.hid hn
    have B1 := Lib.hid hb1
    clear hn hb1
    go_wp2_with fail
    go_ret2
    exact ⟨B1.out, Or.inl ⟨n, rfl, n0, n1, HN.out⟩⟩
  · have HN := Lib.hid hbad
    have B1 := Lib.hid hb1
    clear hbad hb1
    go_wp2_with fail
    refine (TE.out w1 B1.out).mono ?_
    rintro e w2 ⟨ty, pp, rfl, hb2⟩
    have B2 := Lib.hid (B1.out.trans (hb2.mono B1.out.size))
    clear hb2
    go_wp2_with fail
    go_ret2
    exact ⟨B2.out, Or.inr ⟨HN.out, 0, _, _, rfl⟩⟩

end Go.Proofs.YtifibhaalepmgaaDoor
