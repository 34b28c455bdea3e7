/-
  DERIVED. GIVEN WITH THE SEED: THE CARDS: each row of YtmmofmkencnldaaGreatDoorRows.lean that lists a variable, with what it lists TIED to the program's text (the seventh form; the later family's looks); each row that meets fmt, with fmt's text TOLD by the authors' own Lean function (tested against real Go, not proved from fmt's source: count such statements apart). THE CARD IS WHAT COUNTS. Prove the row's statement (the work); the ties are given (YtmmofmkencnldaaGreatDoorTie.lean); close each card by the builder's one call (the guide's Derived/Test/ToyasCard.lean, 'card_holds'). Laid BY PROGRAM, IN A SANDBOX (cutbox-door.mjs). By AI agents, Wed Nov 11 2026. No macro, syntax, notation, axiom, sorry.
-/
import Derived.Test.YtmmofmkencnldaaGreatDoorRows
import GoSem.ClaimSeven
namespace Go.Proofs.YtmmofmkencnldaaGreatDoor
namespace Rows

/-- THE TIED CARD OF 'stowagelaw17.MetaNil'. -/
def metaNilCard : Claim7 := { stood := { row := metaNilRow, standIns := [], harness := (true, "a0025845733e2024e0e0f11db52a33e7a6a17322d961bb1d63f02577610fc447"), looks := false }, kinds := [], alts := [], laidByText := true, laidKinds := [.data, .data, .pinned], laidTests := true, laidLooks := .later }
def MetaNilCardSaid : Prop := Claim7.holds Tryz.pinned (.plain (OpenSpec.ofChange metaNilSpec)) metaNilCard

/-- THE SECOND FORM's CARD OF 'stowagelaw17.MetaNil'. -/
def metaNilUptoCard : Claim7 := { stood := { row := metaNilUptoRow, standIns := [], harness := (true, "a0025845733e2024e0e0f11db52a33e7a6a17322d961bb1d63f02577610fc447"), looks := false }, kinds := [], alts := [], laidByText := true, laidKinds := [.data, .data, .pinned], laidTests := true, laidLooks := .later }
def MetaNilUptoCardSaid : Prop := Claim7.holds Tryz.pinned (.plain (OpenSpec.upto metaNilSpec)) metaNilUptoCard
end Rows
end Go.Proofs.YtmmofmkencnldaaGreatDoor
