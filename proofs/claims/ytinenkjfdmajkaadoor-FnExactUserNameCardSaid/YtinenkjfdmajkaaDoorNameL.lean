/- FnExactUserName: the walk. No condition. -/
import Derived.Test.YtinenkjfdmajkaaDoorLhUserName
namespace Go.Proofs.YtinenkjfdmajkaaDoor
open Go.RowKit
theorem lawUserName (nm pf : ByteArray) (ttl lim n : Int) (w : World) (hs1 : nm.size ≤ maxLen) (hs2 : pf.size ≤ maxLen) (ht : tabOk w) :
    Calls Tryd.prog 4 #[.agg #[.string nm, .string pf, .int .i64 ttl, .int .i64 lim], .int .i64 n] w fun e w' => e = .returned (.bool true) ∧ Below w.heap.size w w' :=
  fnExactUserName_law nm pf ttl lim n (nameF nm pf ttl lim n) w hs1 hs2 ht (fun W _ => specUserName_any nm pf ttl lim n W hs1 hs2) (fun W h => implUserName_any nm pf ttl lim n W hs1 hs2 h)
end Go.Proofs.YtinenkjfdmajkaaDoor
