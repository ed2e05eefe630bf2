/- The container Far: contracts of the statements' own helpers. No condition. -/
import Derived.Test.YtnhdpcmnnjgdkaaElUser
set_option linter.unusedVariables false
set_option linter.unusedSimpArgs false
namespace Go.Proofs.Ytnhdpcmnnjgdkaa
open Go.RowKit

end Go.Proofs.Ytnhdpcmnnjgdkaa
