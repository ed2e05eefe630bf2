/- The container Pile: contracts of the statements' own helpers, over footprints. No condition. -/
import Derived.Test.YtlblkpcjknjijaaGreatDoorM3
import Derived.Test.YtlblkpcjknjijaaGreatDoorM2
set_option linter.unusedVariables false
set_option linter.unusedSimpArgs false
namespace Go.Proofs.YtlblkpcjknjijaaGreatDoor
open Go.RowKit
set_option linter.unusedVariables false
end Go.Proofs.YtlblkpcjknjijaaGreatDoor
