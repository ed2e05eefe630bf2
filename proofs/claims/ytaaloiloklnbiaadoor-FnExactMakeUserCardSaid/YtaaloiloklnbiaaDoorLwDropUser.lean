/- The walk of FnExactDropUser, over the contracts of the two functions that it compares. No condition. -/
import Derived.Test.YtaaloiloklnbiaaDoorCtFar
import Derived.Deep.DeepCutAuto
import Derived.Deep.RegionWith
namespace Go.Proofs.YtaaloiloklnbiaaDoor
open Go.RowKit
set_option linter.unusedVariables false

end Go.Proofs.YtaaloiloklnbiaaDoor
