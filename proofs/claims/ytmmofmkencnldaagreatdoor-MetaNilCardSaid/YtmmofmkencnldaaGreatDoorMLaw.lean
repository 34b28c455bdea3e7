/-
  META: the law about a nil machine, told by the evaluator, of any arguments (it looks at none of them); its worked example is given.
-/
import Derived.Test.YtmmofmkencnldaaGreatDoorMDef
namespace Go.Proofs.YtmmofmkencnldaaGreatDoor.TV
open Go Go.RowKit
set_option maxRecDepth 1000000
set_option maxHeartbeats 4000000
theorem metaNil_run : saysTrue (runG Tryz.prog givenL 1000 3 [.junk, .agg (List.replicate 9 .junk), .agg (List.replicate 7 .junk)] .none) = true := by decide +kernel
end Go.Proofs.YtmmofmkencnldaaGreatDoor.TV
