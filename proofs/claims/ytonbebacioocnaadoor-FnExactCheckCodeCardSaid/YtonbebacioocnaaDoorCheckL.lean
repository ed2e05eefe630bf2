/- FnExactCheckCode: the walk. No condition. -/
import Derived.Test.YtonbebacioocnaaDoorLhCheckCode
import Derived.Test.YtonbebacioocnaaDoorChkI
import Derived.Test.YtonbebacioocnaaDoorChkS
namespace Go.Proofs.YtonbebacioocnaaDoor
open Go.RowKit
theorem lawCheckCode (k c f u : Int) (s : ByteArray) (win now : Int) (w : World) (hs : s.size ≤ maxLen) (ht : tabOk w) :
    Calls Tryd.prog 6 #[.agg #[.int .i64 k, .int .i64 c, .int .i64 f, .int .i64 u], .string s, .int .i64 win, .int .i64 now] w fun e w' => e = .returned (.bool true) ∧ Below w.heap.size w w' :=
  fnExactCheckCode_law k c f u s win now (checkV k c f u s win now).k (checkV k c f u s win now).c (checkV k c f u s win now).f (checkV k c f u s win now).u (checkV k c f u s win now).what w hs ht (fun W _ => specCheckCode_any k c f u now win s W) (fun W h => implCheckCode_any k c f u win now s W h)
end Go.Proofs.YtonbebacioocnaaDoor
