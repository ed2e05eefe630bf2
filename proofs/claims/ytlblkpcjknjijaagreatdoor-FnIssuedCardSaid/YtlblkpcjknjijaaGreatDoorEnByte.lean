/- Slices of bytes: the statements' own helpers over them (to, eq, sz), over footprints. No condition. -/
import Derived.Test.YtlblkpcjknjijaaGreatDoorM2
import Derived.Test.YtlblkpcjknjijaaGreatDoorM1
import Derived.Deep.QuietTactic
import Derived.BigQuiet
import Derived.Deep.RegionWith
set_option linter.unusedVariables false
set_option linter.unusedSimpArgs false
namespace Go.Proofs.YtlblkpcjknjijaaGreatDoor
open Go.RowKit
set_option linter.unusedVariables false
set_option linter.unusedSimpArgs false
end Go.Proofs.YtlblkpcjknjijaaGreatDoor
