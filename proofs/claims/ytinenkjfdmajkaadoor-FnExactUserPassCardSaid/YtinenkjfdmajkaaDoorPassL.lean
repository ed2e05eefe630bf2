/- FnExactUserPass: the walk. No condition. -/
import Derived.Test.YtinenkjfdmajkaaDoorLhUserPass
namespace Go.Proofs.YtinenkjfdmajkaaDoor
open Go.RowKit
theorem lawUserPass (key : Int) (s : ByteArray) (w : World) (hs : s.size ≤ maxLen) (ht : tabOk w) :
    Calls Tryd.prog 3 #[.int .i64 key, .string s] w fun e w' => e = .returned (.bool true) ∧ Below w.heap.size w w' :=
  fnExactUserPass_law key s (passF key s) w hs ht (fun W _ => specUserPass_any key s W hs) (fun W h => implUserPass_any key s W hs h)
end Go.Proofs.YtinenkjfdmajkaaDoor
