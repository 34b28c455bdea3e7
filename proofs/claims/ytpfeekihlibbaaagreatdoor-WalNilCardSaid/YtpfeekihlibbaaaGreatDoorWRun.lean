/-
  WAL: the law about a nil log: told by the evaluator, of any arguments (it looks at none of them), where three functions of Go's library are given.
-/
import Derived.Test.YtpfeekihlibbaaaGreatDoorWDef
namespace Go.Proofs.YtpfeekihlibbaaaGreatDoor.TV
open Go Go.RowKit
set_option maxRecDepth 1000000 in
set_option maxHeartbeats 4000000 in
theorem walNil_run : saysTrue (runG Tryz.prog givenW 1000 3 [.junk, .junk] .none) = true := by decide +kernel
end Go.Proofs.YtpfeekihlibbaaaGreatDoor.TV
