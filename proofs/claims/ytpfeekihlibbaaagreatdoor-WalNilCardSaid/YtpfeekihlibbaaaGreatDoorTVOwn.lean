/-
  TV: what differs from seat to seat: slices that are told as objects, for they are written; what is known of package variables.
-/
import GoSem.Step
import Derived.Control
namespace Go.Proofs.YtpfeekihlibbaaaGreatDoor.TV
open Go
/-- The log's segments are written in place. -/
def ownedT (t : TypeId) : Bool := t == 42
/-- The variable strconv.ErrSyntax holds some error; it lies below b. -/
def VarsOk (b : Nat) (W : World) : Prop := 0 < b ∧ ∃ tp p, W.cell? ⟨0, 0, none⟩ = some (.iface tp p)
end Go.Proofs.YtpfeekihlibbaaaGreatDoor.TV
