/- The walk of FnExactHasUser, over the contracts of the two functions that it compares. No condition. -/
import Derived.Test.YtnhdpcmnnjgdkaaCtFar
import Derived.Deep.DeepCutAuto
import Derived.Deep.RegionWith
set_option linter.unusedVariables false
set_option linter.unusedSimpArgs false
namespace Go.Proofs.Ytnhdpcmnnjgdkaa
open Go.RowKit
set_option linter.unusedVariables false

end Go.Proofs.Ytnhdpcmnnjgdkaa
