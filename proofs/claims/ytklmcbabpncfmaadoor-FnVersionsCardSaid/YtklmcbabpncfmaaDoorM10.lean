/- Stores: versions turned (the reference's l10Each at 0). No condition. -/
import Derived.Test.YtklmcbabpncfmaaDoorKvJ
import Derived.Test.YtklmcbabpncfmaaDoorKvD
import Derived.Test.YtklmcbabpncfmaaDoorM9
import Derived.Deep.RegionHeld3
import Derived.Deep.RegionLaw
namespace Go.Proofs.YtklmcbabpncfmaaDoor
open Go.RowKit
set_option linter.unusedVariables false
set_option linter.unusedSimpArgs false
end Go.Proofs.YtklmcbabpncfmaaDoor
namespace Go.Proofs.YtklmcbabpncfmaaDoor
open Go.RowKit
set_option linter.unusedVariables false
set_option linter.unusedSimpArgs false
end Go.Proofs.YtklmcbabpncfmaaDoor
namespace Go.Proofs.YtklmcbabpncfmaaDoor
open Go.RowKit
set_option linter.unusedVariables false
set_option linter.unusedSimpArgs false
end Go.Proofs.YtklmcbabpncfmaaDoor
