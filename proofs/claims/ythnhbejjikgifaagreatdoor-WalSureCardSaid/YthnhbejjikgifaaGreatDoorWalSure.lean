/-
  WalSure: for every input the law answers true (the package's variables as the program's text lays them; tied).
-/
import Derived.Test.YthnhbejjikgifaaGreatDoorM13
import Derived.Test.YthnhbejjikgifaaGreatDoorM15

namespace Go.Proofs.YthnhbejjikgifaaGreatDoor
open Go Go.Proofs.YthnhbejjikgifaaGreatDoor.TV
theorem walSure_holds : Rows.WalSureCardSaid := walSure_card fun d _ => walSure_true d.1 d.2.1.1 d.2.1.2.1 d.2.1.2.2
end Go.Proofs.YthnhbejjikgifaaGreatDoor
