/-
  META: a block of a digest, summed up by the evaluator.
-/
import Derived.Test.YtmmofmkencnldaaGreatDoorMDef
import Derived.Test.YtmmofmkencnldaaGreatDoorTVChk
namespace Go.Proofs.YtmmofmkencnldaaGreatDoor.TV
open Go Go.RowKit
set_option maxRecDepth 1000000
set_option maxHeartbeats 4000000
theorem sums3 : Sums blk3 := by
  unfold Sums
  rw [← Chk.runC_flat]
  decide +kernel
end Go.Proofs.YtmmofmkencnldaaGreatDoor.TV
