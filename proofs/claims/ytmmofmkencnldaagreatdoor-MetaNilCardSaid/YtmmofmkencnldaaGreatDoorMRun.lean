/-
  META: the laws' worked example, told by the evaluator (what is given: MDef).
-/
import Derived.Test.YtmmofmkencnldaaGreatDoorMDef
namespace Go.Proofs.YtmmofmkencnldaaGreatDoor.TV
open Go Go.RowKit
set_option maxRecDepth 1000000
set_option maxHeartbeats 4000000
theorem digits_run : answersTrue Tryz.prog 1000 146 [.str z64] = true := by decide +kernel
theorem awake_run : saysTrue (runG Tryz.prog givenM 1000 10 [] .none) = true := by decide +kernel
end Go.Proofs.YtmmofmkencnldaaGreatDoor.TV
