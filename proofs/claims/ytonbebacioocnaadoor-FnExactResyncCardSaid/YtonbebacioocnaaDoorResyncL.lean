/- FnExactResync: the walk. No condition. -/
import Derived.Test.YtonbebacioocnaaDoorLhResync
import Derived.Test.YtonbebacioocnaaDoorChkR
import Derived.Test.YtonbebacioocnaaDoorChkT
namespace Go.Proofs.YtonbebacioocnaaDoor
open Go.RowKit
theorem lawResync (k c f u : Int) (a b : ByteArray) (now : Int) (w : World) (ha : a.size ≤ maxLen) (hb : b.size ≤ maxLen) (ht : tabOk w) :
    Calls Tryd.prog 5 #[.agg #[.int .i64 k, .int .i64 c, .int .i64 f, .int .i64 u], .string a, .string b, .int .i64 now] w fun e w' => e = .returned (.bool true) ∧ Below w.heap.size w w' :=
  fnExactResync_law k c f u a b now (resyncV k c f u a b now).k (resyncV k c f u a b now).c (resyncV k c f u a b now).f (resyncV k c f u a b now).u (resyncV k c f u a b now).what w ha hb ht (fun W _ => specResync_any k c f u now a b W) (fun W h => implResync_any k c f u now a b W h)
end Go.Proofs.YtonbebacioocnaaDoor
