/- slices.Delete of one Lease. No condition. -/
import Derived.Test.YtlmmeeeoljlgcaaDoorM3
import Derived.Test.YtlmmeeeoljlgcaaDoorDelKit
import Derived.Deep.RegionLaw
set_option linter.unusedVariables false
set_option linter.unusedSimpArgs false
namespace Go.Proofs.YtlmmeeeoljlgcaaDoor
open Go.RowKit
set_option linter.unusedVariables false

end Go.Proofs.YtlmmeeeoljlgcaaDoor
