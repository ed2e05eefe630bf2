/- FnExactCodesFrom: the walk. No condition. -/
import Derived.Test.YtonbebacioocnaaDoorLhCodesFrom
namespace Go.Proofs.YtonbebacioocnaaDoor
open Go.RowKit
theorem codesFrom_len (k c n : Int) : (codesFrom k c n).length ≤ 1048576 := by
  unfold codesFrom
  split
  · rename_i h
    have := inR_true.1 h.2.1
    simp
    omega
  · simp
theorem lawCodesFrom (k c n : Int) (w : World) (ht : tabOk w) :
    Calls Tryd.prog 4 #[.int .i64 k, .int .i64 c, .int .i64 n] w fun e w' => e = .returned (.bool true) ∧ Below w.heap.size w w' :=
  fnExactCodesFrom_law k c n (codesFrom k c n) (codesFrom_len k c n) w ht (fun W _ => specCodesFrom_any k c n W) (fun W h => implCodesFrom_any k c n W h)
end Go.Proofs.YtonbebacioocnaaDoor
