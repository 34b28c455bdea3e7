/-
  DERIVED. GIVEN WITH THE SEED: THE CARDS: each row of YthnhbejjikgifaaGreatDoorRows.lean that lists a variable, with what it lists TIED to the program's text (the seventh form; the later family's looks); each row that meets fmt, with fmt's text TOLD by the authors' own Lean function (tested against real Go, not proved from fmt's source: count such statements apart). THE CARD IS WHAT COUNTS. Prove the row's statement (the work); the ties are given (YthnhbejjikgifaaGreatDoorTie.lean); close each card by the builder's one call (the guide's Derived/Test/ToyasCard.lean, 'card_holds'). Laid BY PROGRAM, IN A SANDBOX (cutbox-door.mjs). By AI agents, Wed Nov 11 2026. No macro, syntax, notation, axiom, sorry.
-/
import Derived.Test.YthnhbejjikgifaaGreatDoorRows
import GoSem.ClaimSeven
namespace Go.Proofs.YthnhbejjikgifaaGreatDoor
namespace Rows

/-- THE TIED CARD OF 'stowagelaw05.WalSure'. -/
def walSureCard : Claim7 := { stood := { row := walSureRow, standIns := [], harness := (true, "e8342e7115be1c06c18e20d023a61f1f25a7cbb3d9c876e7f5902a0c1e0ac816"), looks := true }, kinds := [], alts := [], laidByText := true, laidKinds := [.data, .data, .data, .sentinel, .sentinel], laidTests := true, laidLooks := .later }
def WalSureCardSaid : Prop := Claim7.holds Tryz.pinned (.plain (OpenSpec.ofChange walSureSpec)) walSureCard

/-- THE TIED CARD OF 'stowagelaw05.WalOpens'. -/
def walOpensCard : Claim7 := { stood := { row := walOpensRow, standIns := [], harness := (true, "e8342e7115be1c06c18e20d023a61f1f25a7cbb3d9c876e7f5902a0c1e0ac816"), looks := true }, kinds := [], alts := [], laidByText := true, laidKinds := [.data, .data, .data, .sentinel, .sentinel], laidTests := true, laidLooks := .later }
def WalOpensCardSaid : Prop := Claim7.holds Tryz.pinned (.plain (OpenSpec.ofChange walOpensSpec)) walOpensCard

/-- THE TIED CARD OF 'stowagelaw05.WalFull'. -/
def walFullCard : Claim7 := { stood := { row := walFullRow, standIns := [], harness := (true, "e8342e7115be1c06c18e20d023a61f1f25a7cbb3d9c876e7f5902a0c1e0ac816"), looks := true }, kinds := [], alts := [], laidByText := true, laidKinds := [.data, .data, .data, .sentinel, .sentinel], laidTests := true, laidLooks := .later }
def WalFullCardSaid : Prop := Claim7.holds Tryz.pinned (.plain (OpenSpec.ofChange walFullSpec)) walFullCard

/-- THE SECOND FORM's CARD OF 'stowagelaw05.WalSure'. -/
def walSureUptoCard : Claim7 := { stood := { row := walSureUptoRow, standIns := [], harness := (true, "e8342e7115be1c06c18e20d023a61f1f25a7cbb3d9c876e7f5902a0c1e0ac816"), looks := true }, kinds := [], alts := [], laidByText := true, laidKinds := [.data, .data, .data, .sentinel, .sentinel], laidTests := true, laidLooks := .later }
def WalSureUptoCardSaid : Prop := Claim7.holds Tryz.pinned (.plain (OpenSpec.upto walSureSpec)) walSureUptoCard

/-- THE SECOND FORM's CARD OF 'stowagelaw05.WalOpens'. -/
def walOpensUptoCard : Claim7 := { stood := { row := walOpensUptoRow, standIns := [], harness := (true, "e8342e7115be1c06c18e20d023a61f1f25a7cbb3d9c876e7f5902a0c1e0ac816"), looks := true }, kinds := [], alts := [], laidByText := true, laidKinds := [.data, .data, .data, .sentinel, .sentinel], laidTests := true, laidLooks := .later }
def WalOpensUptoCardSaid : Prop := Claim7.holds Tryz.pinned (.plain (OpenSpec.upto walOpensSpec)) walOpensUptoCard

/-- THE SECOND FORM's CARD OF 'stowagelaw05.WalFull'. -/
def walFullUptoCard : Claim7 := { stood := { row := walFullUptoRow, standIns := [], harness := (true, "e8342e7115be1c06c18e20d023a61f1f25a7cbb3d9c876e7f5902a0c1e0ac816"), looks := true }, kinds := [], alts := [], laidByText := true, laidKinds := [.data, .data, .data, .sentinel, .sentinel], laidTests := true, laidLooks := .later }
def WalFullUptoCardSaid : Prop := Claim7.holds Tryz.pinned (.plain (OpenSpec.upto walFullSpec)) walFullUptoCard
end Rows
end Go.Proofs.YthnhbejjikgifaaGreatDoor
