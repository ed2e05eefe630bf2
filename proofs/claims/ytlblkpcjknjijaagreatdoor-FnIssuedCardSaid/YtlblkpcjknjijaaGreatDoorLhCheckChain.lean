/- The walk of FnExactCheckChain, over the contracts of the two functions that it compares. No condition. -/
import Derived.Test.YtlblkpcjknjijaaGreatDoorCwPile
import Derived.Test.YtlblkpcjknjijaaGreatDoorM3
import Derived.Test.YtlblkpcjknjijaaGreatDoorM2
import Derived.Test.YtlblkpcjknjijaaGreatDoorM4
import Derived.Deep.RegionHeld3
import Derived.Deep.DeepCutAuto
import Derived.Deep.DrawnRows
set_option linter.unusedVariables false
set_option linter.unusedSimpArgs false
namespace Go.Proofs.YtlblkpcjknjijaaGreatDoor
open Go.RowKit
set_option linter.unusedVariables false
set_option linter.unusedSimpArgs false
attribute [local go_sem ↓] Go.wp_at_zero Go.wp_at_succ

end Go.Proofs.YtlblkpcjknjijaaGreatDoor
