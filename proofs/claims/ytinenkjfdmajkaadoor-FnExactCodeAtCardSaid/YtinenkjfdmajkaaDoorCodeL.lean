/- FnExactCodeAt: the walk. No condition. -/
import Derived.Test.YtinenkjfdmajkaaDoorLhCodeAt
namespace Go.Proofs.YtinenkjfdmajkaaDoor
open Go.RowKit
theorem lawCodeAt (key count : Int) (w : World) (ht : tabOk w) :
    Calls Tryd.prog 5 #[.int .i64 key, .int .i64 count] w fun e w' => e = .returned (.bool true) ∧ Below w.heap.size w w' :=
  fnExactCodeAt_law key count (codeF key count) w ht (fun W _ => specCodeAt_any key count W) (fun W h => implCodeAt_any key count W h)
end Go.Proofs.YtinenkjfdmajkaaDoor
